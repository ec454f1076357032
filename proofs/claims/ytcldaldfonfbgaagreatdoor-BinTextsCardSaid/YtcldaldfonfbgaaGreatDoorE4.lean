/- base.Number, base.Numbers, base.Words. -/
import Derived.Test.YtcldaldfonfbgaaGreatDoorE3
import Derived.BigQuiet
import Derived.Lib.SmallJoins
set_option linter.unusedVariables false
set_option linter.unusedSimpArgs false
namespace Go.Proofs.YtcldaldfonfbgaaGreatDoor
open Go.RowKit

def NumP (d : Nat) (l : List UInt8) (e : Ending) : Prop := ∃ v, e = .returned (.tuple #[.int .i64 v, .bool (numD d l).isSome]) ∧ ∀ n, numD d l = some n → v = n
theorem numP_none {d : Nat} {l : List UInt8} (h : numD d l = none) (v : Int) : NumP d l (.returned (.tuple #[.int .i64 v, .bool false])) := ⟨v, by rw [h]; rfl, by rw [h]; intro n hn; cases hn⟩
theorem numP_some {d : Nat} {l : List UInt8} {v : Int} (h : numD d l = some v) : NumP d l (.returned (.tuple #[.int .i64 v, .bool true])) := ⟨v, by rw [h]; rfl, by rw [h]; intro n hn; injection hn⟩

set_option maxHeartbeats 4000000 in
set_option maxRecDepth 100000 in
theorem number_any (d : Nat) (hd : d ≤ 20) (l : List UInt8) (w : World) (he : Env w) (hl : l.length ≤ 1000000) :
    Calls Tryz.prog 214 #[.string (bs l), .int .i64 d] w
      fun e w' => NumP d l e ∧ Kp Non w w' := by
  obtain ⟨r, hr⟩ : ∃ r, r = Lib.trimPrefix l [45] := ⟨_, rfl⟩
  have TP := Tryz.strings_TrimPrefix (bs l) ⟨#[45]⟩ w
  have e1 : (bs l).data.toList = l := by simp [bs]
  have e2 : (⟨#[45]⟩ : ByteArray).data.toList = [45] := rfl
  rw [e1, e2, ← hr] at TP
  have hrl : r.length ≤ l.length := by
    rw [hr]; unfold Lib.trimPrefix; split <;> simp
  have hnum : numD d l = numD d l := rfl
  conv at hnum => rhs; unfold numD canon
  rw [← hr] at hnum
  dsimp only at hnum
  have HTP := Lib.hid TP
  have hbl : (bs l).size = l.length := rfl
  have hbr : (bs r).size = r.length := rfl
  clear TP e1 e2 hr
  cases r with
  | nil =>
    have hn : numD d l = none := by rw [hnum]; simp
    clear hnum
    go_enter Tryz.func214, Tryz.ntmps214
    go_wp2_with fail
    refine HTP.out.mono ?_
    rintro e w1 ⟨rfl, rfl⟩
    go_wp2_with fail
    go_ret2
    exact ⟨numP_none hn _, Kp.refl _ _⟩
  | cons c r =>
    obtain ⟨S, hS⟩ : ∃ S, S = bs (c :: r) := ⟨_, rfl⟩
    have hSz : S.size = r.length + 1 := by rw [hS]; rfl
    have hSl : S.data.toList = c :: r := by rw [hS]; simp [bs]
    have hne : S.toList.isEmpty = false := by rw [ByteArray.toList_eq, hSl]; rfl
    have hSe : (⟨(c :: r).toArray⟩ : ByteArray) = S := hS.symm
    have hSi : ∀ (i : Nat) (h : i < S.size), S[i] = (c :: r)[i]'(by simpa [hSz] using h) := by subst hS; intro i h; rfl
    have htp := HTP.out
    rw [hSe] at htp
    have HTP2 := Lib.hid htp
    have HSI := Lib.hid hSi
    have h0 : 0 < S.size := by omega
    have hs0 : S[0] = c := hSi 0 h0
    simp only [List.length_cons] at hrl hnum
    have hnum' := hnum
    simp only [← hSz] at hnum hrl
    clear hSe htp HTP hS hSi hSl hbr
    by_cases hB : d < S.size
    · have hn : numD d l = none := by rw [hnum]; simp [hB]
      clear hnum
      go_enter Tryz.func214, Tryz.ntmps214
      go_wp2_with fail
      refine HTP2.out.mono ?_
      rintro e w1 ⟨rfl, rfl⟩
      go_wp2_with fail
      go_ret2
      exact ⟨numP_none hn _, Kp.refl _ _⟩
    · by_cases hC : c = 48 ∧ (1 < S.size ∨ S.size < l.length)
      · have hn : numD d l = none := by
          rw [hnum]
          obtain ⟨rfl, h2⟩ := hC
          simp
          intro h
          omega
        obtain ⟨h48, h2⟩ := hC
        have hq : ((S[0].toNat : Int) == 48) = true := by rw [hs0, h48]; rfl
        clear hnum
        by_cases h3 : 1 < S.size
        · go_enter Tryz.func214, Tryz.ntmps214
          go_wp2_with fail
          refine HTP2.out.mono ?_
          rintro e w1 ⟨rfl, rfl⟩
          go_wp2_with fail
          go_ret2
          exact ⟨numP_none hn _, Kp.refl _ _⟩
        · have h4 : S.size < l.length := by omega
          go_enter Tryz.func214, Tryz.ntmps214
          go_wp2_with fail
          refine HTP2.out.mono ?_
          rintro e w1 ⟨rfl, rfl⟩
          go_wp2_with fail
          go_ret2
          exact ⟨numP_none hn _, Kp.refl _ _⟩
      · have hn : numD d l = if ((c :: r).all fun c => decide (48 ≤ c.toNat) && decide (c.toNat ≤ 57)) = true then atoiO l else none := by
          rw [hnum]
          have h5 : ((some c == some (48 : UInt8)) && (decide (1 < S.size) || decide (S.size < l.length))) = false := by
            by_cases hc : c = 48
            · subst hc
              simp at hC ⊢
              omega
            · simp [hc]
          simp only [List.head?_cons, h5]
          simp [hB]
        have HN := Lib.hid hn
        clear hnum hnum' hn
        have way : (¬ (c.toNat : Int) = 48 ∧ ((c.toNat : Int) == 48) = false) ∨ (c = 48 ∧ ¬ 1 < r.length + 1 ∧ ¬ r.length + 1 < l.length) := by
          by_cases hc : c = 48
          · right
            exact ⟨hc, by simp [hc] at hC; omega, by simp [hc] at hC; omega⟩
          · left
            have : ¬ (c.toNat : Int) = 48 := by
              intro h
              exact hc (by rw [← UInt8.toNat_inj]; have : (48 : UInt8).toNat = 48 := rfl; omega)
            exact ⟨this, by simpa using this⟩
        clear hC
        go_enter Tryz.func214, Tryz.ntmps214
        go_wp2_with fail
        refine HTP2.out.mono ?_
        rintro e w1 ⟨rfl, rfl⟩
        have HE := Lib.hid he
        clear he
        have fin : ∀ x, x ∈ (c :: r) → ¬ (48 ≤ x.toNat ∧ x.toNat ≤ 57) → numD d l = none := by
          intro x hx hd
          rw [HN.out, if_neg]
          intro h
          rw [List.all_eq_true] at h
          have := h x hx
          simp at this
          exact hd this
        have FIN := Lib.hid fin
        clear fin
        have hB1 : decide ((d : Int) < (r.length : Int) + 1) = false := by simp; omega
        have hB2 : ¬ d < r.length + 1 := by omega
        have hB3 : (r.length : Int) + 1 ≤ (d : Int) := by omega
        rcases way with ⟨hq, hq2⟩ | ⟨hq, h6, h7⟩
        all_goals
          go_wp2_with fail
          go_loopg [39] (r.length + 1) (fun k s39 wr => ∃ i : Nat, i + k = r.length + 1 ∧ s39 = .int .i64 i ∧ wr = w1 ∧ ∀ x ∈ (c :: r).take i, 48 ≤ x.toNat ∧ x.toNat ≤ 57)
          case atStart => exact ⟨0, by omega, rfl, rfl, by simp⟩
          case round =>
            obtain ⟨i, hi, rfl, rfl, hall⟩ := hrel
            have HALL := Lib.hid hall
            clear hall
            by_cases hin : i < S.size
            · have hx : S[i] = (c :: r)[i]'(by simpa [hSz] using hin) := HSI.out i hin
              obtain ⟨x, hxx⟩ : ∃ x, x = (c :: r)[i]'(by simpa [hSz] using hin) := ⟨_, rfl⟩
              have hxm : x ∈ c :: r := by rw [hxx]; exact List.getElem_mem _
              have hx2 : S[i] = x := by rw [hx, hxx]
              have HXX := Lib.hid hxx
              have hxn : S[i].toNat = x.toNat := by rw [hx2]
              clear hxx hx
              by_cases h8 : x.toNat < 48
              · have hn := FIN.out x hxm (by omega)
                have hq1 : decide (((S[i].toNat : Nat) : Int) < 48) = true := by simp; omega
                go_wp2_with fail
                go_ret2
                exact ⟨numP_none hn _, Kp.refl _ _⟩
              · by_cases h9 : 57 < x.toNat
                · have hn := FIN.out x hxm (by omega)
                  go_wp2_with fail
                  go_ret2
                  exact ⟨numP_none hn _, Kp.refl _ _⟩
                · go_wp2_with fail
                  go_roundg (gk - 1)
                  case measure => omega
                  case rel =>
                    refine ⟨i + 1, by omega, by go_num, rfl, ?_⟩
                    rw [List.take_add_one]
                    intro y hy
                    rw [List.mem_append] at hy
                    rcases hy with hy | hy
                    · exact HALL.out y hy
                    · rw [List.getElem?_eq_getElem (by simpa [hSz] using hin), ← HXX.out] at hy
                      simp at hy
                      subst hy
                      omega
            · have hn2 : numD d l = atoiO l := by
                rw [HN.out, if_pos]
                rw [List.all_eq_true]
                intro x hx
                have hlen : (c :: r).take i = c :: r := List.take_of_length_le (by simp; omega)
                have := HALL.out x (by rw [hlen]; exact hx)
                simp [this]
              have HN2 := Lib.hid hn2
              clear hn2
              rcases ha : Lib.atoiAll l with v | _ | _
              ·
                have hn3 : numD d l = some v := by rw [HN2.out]; unfold atoiO; rw [ha]
                have AT := Lib.hid (Tryz.strconv_Atoi_ok (bs l) (by rw [hbl]; omega) v (by rw [show (bs l).data.toList = l by simp [bs]]; exact ha) wr)
                clear ha
                go_wp2_with fail
                refine AT.out.mono ?_
                rintro e w2 ⟨rfl, hw⟩
                have hk : Kp Non wr w2 := by
                  rcases hw with rfl | ⟨t, rfl⟩
                  · exact Kp.refl _ _
                  · exact Kp.of_below (Joins.below_bytesWorld _ _ _ _ (Nat.le_refl _))
                clear hw
                go_wp2_with fail
                go_quiet (fail)
                go_wp2_with fail
                go_ret2
                exact ⟨numP_some hn3, hk.drewN _⟩
              ·
                have hn3 : numD d l = none := by rw [HN2.out]; unfold atoiO; rw [ha]
                obtain ⟨ev, hev, hev2⟩ := HE.out.errS
                have AT := Lib.hid (Tryz.strconv_Atoi_syntax (bs l) (by rw [hbl]; omega) (by rw [show (bs l).data.toList = l by simp [bs]]; exact ha) ev wr hev hev2)
                clear ha hev hev2
                go_wp2_with fail
                refine AT.out.mono ?_
                rintro e w2 ⟨N, rfl, _, _, hw⟩
                have hk : Kp Non wr w2 := Kp.of_below hw
                clear hw
                go_wp2_with fail
                go_quiet (fail)
                go_wp2_with fail
                go_ret2
                exact ⟨numP_none hn3 _, hk.drewN _⟩
              ·
                have hn3 : numD d l = none := by rw [HN2.out]; unfold atoiO; rw [ha]
                obtain ⟨ev, hev, hev2⟩ := HE.out.errR
                have AT := Lib.hid (Tryz.strconv_Atoi_range (bs l) (by rw [hbl]; omega) (by rw [show (bs l).data.toList = l by simp [bs]]; exact ha) ev wr hev hev2)
                clear ha hev hev2
                go_wp2_with fail
                refine AT.out.mono ?_
                rintro e w2 ⟨N, rfl, _, _, hw⟩
                have hk : Kp Non wr w2 := Kp.of_below hw
                clear hw
                go_wp2_with fail
                go_quiet (fail)
                go_wp2_with fail
                go_ret2
                exact ⟨numP_none hn3 _, hk.drewN _⟩
end Go.Proofs.YtcldaldfonfbgaaGreatDoor
