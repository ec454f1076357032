/- retain.Text. -/
import Derived.Test.YtcldaldfonfbgaaGreatDoorD1
set_option linter.unusedVariables false
set_option linter.unusedSimpArgs false
namespace Go.Proofs.YtcldaldfonfbgaaGreatDoor
open Go.RowKit

theorem numsB_snoc (xs : List Int) (y : Int) : numsB (xs ++ [y]) = numsB xs ++ (if xs = [] then [] else [32]) ++ Lib.itoa y := by
  cases xs with
  | nil => simp [numsB, Lib.join_one, Lib.join_nil]
  | cons x xs => simp [numsB, Lib.join_cons, Lib.joinTail]

theorem KB.env {w w' : World} {b : Nat} (h : Env w) (k : KB b w w') (hb : gl ≤ b) : Env w' := h.kp k.kp fun i hi => Nat.le_trans hb hi

theorem Env.KBk {w w' : World} {b : Nat} (h : Env w) (k : KB b w w') (hb : gl ≤ b) : Env w' := k.env h hb

theorem KB.blk {b : Nat} {w w' : World} (h : KB b w w') {i : Nat} {cs : Array Value} {T : Nat} {fz : Nat × Nat} (hb : w.heap[i]? = some (.cells cs T fz)) (hT : T ≠ 5) (hne : i ≠ b) : w'.heap[i]? = some (.cells cs T fz) :=
  h.oth _ _ hb hne (by intro c f hx; injection hx with h1 h2; exact hT h2)

set_option maxHeartbeats 4000000 in
set_option maxRecDepth 100000 in
theorem rtText_any (A : Option Addr) (n c : Nat) (xs : List Bin) (step : Int) (w : World) (hr : Rd eBin w A n xs) (he : Env w) (hn : n ≤ 1000) (hok : ∀ x ∈ xs, x.ok) :
    Calls Tryz.prog 13 #[.slice A n c, .int .i64 step] w
      fun e w' => e = .returned (.tuple #[.string (if (binsFault xs step != 0) = true then ⟨#[]⟩ else bs (binLines xs)), .int .i64 (binsFault xs step)]) ∧ Kp Non w w' := by
  have HR := Lib.hid hr
  have HK := Lib.hid hok
  have CB := Lib.hid (checkBins_any xs A n c step w hr)
  have HBL := Lib.hid (binLines_len xs hok)
  have HL := Lib.hid hr.len
  clear hr hok
  generalize binsFault xs step = f at *
  by_cases hf : (f != 0) = true
  · rw [if_pos hf]
    go_enter Tryz.func13, Tryz.ntmps13
    go_wp2_with fail
    refine CB.out.mono ?_
    rintro e w1 ⟨rfl, hk1⟩
    go_wp2_with fail
    go_ret2
    exact ⟨rfl, hk1⟩
  · rw [if_neg hf]
    obtain rfl : f = 0 := by simpa using hf
    clear hf
    go_enter Tryz.func13, Tryz.ntmps13
    go_wp2_with fail
    refine CB.out.mono ?_
    rintro e w1 ⟨rfl, hk1⟩
    have he1 := he.kp0 hk1
    have hlow := he1.low
    go_wp2_with fail
    go_loopg [20] n (fun k s20 wr => ∃ i : Nat, i + k = n ∧ s20 = .int .i64 i ∧ Bu wr w1.heap.size (binLines (xs.take i)) ∧ KB w1.heap.size (w1.alloc (.cells #[.pointer none, .slice none 0 0] 156)) wr)
    case atStart => exact ⟨0, by omega, rfl, Bu.fresh w1, KB.refl _ _⟩
    case round =>
      obtain ⟨i, hi, rfl, hbu, hkb⟩ := hrel
      have HBU := Lib.hid hbu
      have hk0 : Kp Non w wr := hk1.then_ hkb.kp0
      clear hbu
      by_cases hin : i < n
      · have hrd := HR.out.kp0 hk0
        obtain ⟨g, o, rfl, _⟩ := hrd.at (by omega)
        obtain ⟨x, hx, hxi, c0, c1, c2, c3, c4, c5⟩ := bin_at hrd i hin
        have HX := Lib.hid hxi
        obtain ⟨ns, hns⟩ : ∃ ns, ns = [x.frm, x.sum, x.cnt, x.oth, x.low, x.high] := ⟨_, rfl⟩
        have hnok : Hid (∀ y ∈ ns, i64ok y) := by
          obtain ⟨h1, h2, h3, h4, h5, h6⟩ := HK.out x hx
          intro y hy
          rw [hns] at hy
          simp at hy
          rcases hy with rfl | rfl | rfl | rfl | rfl | rfl <;> assumption
        have HNL := Lib.hid (show ns.length = 6 by rw [hns]; rfl)
        have HNE := Lib.hid hns
        have hpre : (binLines (xs.take i)).length ≤ 133 * i := by
          have := binLines_len (xs.take i) (fun z hz => HK.out z (List.mem_of_mem_take hz))
          rw [List.length_take] at this
          have h2 : min i xs.length ≤ i := Nat.min_le_left _ _
          omega
        have he2 := he1.kp0 hkb.kp0
        obtain ⟨wo, hwo⟩ : ∃ wo, wo = wr := ⟨_, rfl⟩
        subst hwo
        obtain ⟨ko, hko⟩ : ∃ ko, ko = gk := ⟨_, rfl⟩
        subst hko
        clear hrd hxi hns hx
        go_wp2_with fail
        go_loopg [38] 6 (fun k s38 wi => ∃ j : Nat, j + k = 6 ∧ s38 = .int .i64 j ∧ Bu wi w1.heap.size (binLines (xs.take i) ++ numsB (ns.take j)) ∧ KB w1.heap.size wo wi ∧ wi.heap[wo.heap.size + 1]? = some (.cells (ns.map fun y => Value.int .i64 y).toArray 3 (0, 0)))
        case atStart =>
          refine ⟨0, by omega, rfl, ?_, ?_, ?_⟩
          · have h0 : numsB (ns.take 0) = [] := by rw [List.take_zero]; rfl
            rw [h0, List.append_nil]
            exact (HBU.out.alloc _).alloc _
          · exact ((KB.refl _ _).alloc _).alloc _
          · rw [HNE.out]
            have := blk_new (wo.alloc (.cells #[.int .i64 x.frm, .int .i64 x.sum, .int .i64 x.cnt, .int .i64 x.oth, .int .i64 x.low, .int .i64 x.high] 39)) #[.int .i64 x.frm, .int .i64 x.sum, .int .i64 x.cnt, .int .i64 x.oth, .int .i64 x.low, .int .i64 x.high] 3
            rw [show (wo.alloc (.cells #[.int .i64 x.frm, .int .i64 x.sum, .int .i64 x.cnt, .int .i64 x.oth, .int .i64 x.low, .int .i64 x.high] 39)).heap.size = wo.heap.size + 1 by simp] at this
            exact this
        case round =>
          obtain ⟨j, hj, rfl, hbi, hki, hbl⟩ := hrel
          have HBI := Lib.hid hbi
          have HKI := Lib.hid hki
          have HBL2 := Lib.hid hbl
          clear hbi hki hbl
          have hnl : (numsB (ns.take j)).length ≤ 132 := by
            have := numsB_len (ns.take j) (fun z hz => hnok.out z (List.mem_of_mem_take hz))
            rw [List.length_take] at this
            have h2 : min j ns.length ≤ ns.length := Nat.min_le_right _ _
            have h3 := HNL.out
            omega
          have hpl : (binLines (xs.take i) ++ numsB (ns.take j)).length ≤ 133 * i + 132 := by rw [List.length_append]; omega
          have HPL := Lib.hid hpl
          clear hnl hpl
          by_cases hj6 : j < 6
          · obtain ⟨y, hy⟩ : ∃ y, ns[j]? = some y := ⟨_, List.getElem?_eq_getElem (by have := HNL.out; omega)⟩
            have hyk := hnok.out y (List.mem_of_getElem? hy)
            have hcell : wr.cell? ⟨wo.heap.size + 1, j, none⟩ = some (.int .i64 y) := blk_cell HBL2.out j (by simp [hy])
            have HY := Lib.hid hy
            have HYK := Lib.hid hyk
            have he3 := he2.KBk HKI.out hlow
            clear hy hyk
            have hsn : numsB (ns.take (j + 1)) = numsB (ns.take j) ++ (if j = 0 then [] else [32]) ++ Lib.itoa y := by
              rw [List.take_add_one, HY.out]
              simp only [Option.toList]
              rw [numsB_snoc]
              congr 2
              have := HNL.out
              by_cases hj0 : j = 0
              · subst hj0; simp
              · have h3 : ns.take j ≠ [] := by
                  intro h
                  have h2 := congrArg List.length h
                  rw [List.length_take, this] at h2
                  have : min j 6 = j := Nat.min_eq_left (by omega)
                  rw [this] at h2
                  exact hj0 h2
                rw [if_neg hj0, if_neg h3]
            have HSN := Lib.hid hsn
            clear hsn
            have hIL := Lib.itoa_length_le y HYK.out.1 HYK.out.2
            have hbs : (⟨(Lib.itoa y).toArray⟩ : ByteArray).size = (Lib.itoa y).length := rfl
            by_cases hj0 : j = 0
            · subst hj0
              go_wp2_with fail
              refine (itoa_any y HYK.out _ he3).mono ?_
              rintro e w2 ⟨rfl, hk2⟩
              have hb2 := HBI.out.kp0 hk2
              have hkb2 := HKI.out.trans (.of0 hk2)
              go_wp2_with fail
              refine (writeString_any _ _ _ _ hb2 (by have := HPL.out; omega)).mono ?_
              rintro e w3 ⟨rfl, hb3, hkb3⟩
              have hkb4 := hkb2.trans hkb3
              have hbl4 : w3.heap[wo.heap.size + 1]? = some (.cells (ns.map fun y => Value.int .i64 y).toArray 3 (0, 0)) := 
                hkb3.blk (hk2.obj (non_not _) HBL2.out) (by decide) (by have := HBU.out.lt; omega)
              go_wp2_with fail
              go_roundg (gk - 1)
              case measure => omega
              case rel =>
                refine ⟨1, by omega, rfl, ?_, hkb4, hbl4⟩
                have := HSN.out
                rw [this]
                simpa using hb3
            · have hgt : decide ((0 : Int) < (j : Int)) = true := by simp; omega
              go_wp2_with fail
              refine (writeByte_any _ _ _ 32 _ HBI.out (by decide) (by have := HPL.out; omega)).mono ?_
              rintro e w4 ⟨rfl, hb4, hkb4⟩
              have hkb5 := HKI.out.trans hkb4
              have hbl5 := hkb4.blk HBL2.out (by decide) (by have := HBU.out.lt; omega)
              go_wp2_with fail
              refine (itoa_any y HYK.out _ (he3.KBk hkb4 hlow)).mono ?_
              rintro e w2 ⟨rfl, hk2⟩
              have hb2 := hb4.kp0 hk2
              have hkb2 := hkb5.trans (.of0 hk2)
              go_wp2_with fail
              refine (writeString_any _ _ _ _ hb2 (by have := HPL.out; rw [List.length_append]; simp only [List.length_singleton]; omega)).mono ?_
              rintro e w3 ⟨rfl, hb3, hkb3⟩
              have hkb4 := hkb2.trans hkb3
              have hbl4 := hkb3.blk (hk2.obj (non_not _) hbl5) (by decide) (by have := HBU.out.lt; omega)
              go_wp2_with fail
              go_roundg (gk - 1)
              case measure => omega
              case rel =>
                refine ⟨j + 1, by omega, by go_num, ?_, hkb4, hbl4⟩
                have := HSN.out
                rw [if_neg hj0] at this
                rw [this]
                simpa using hb3
          · obtain rfl : j = 6 := by omega
            have hall : ns.take 6 = ns := List.take_of_length_le (by have := HNL.out; omega)
            have hbi := HBI.out
            rw [hall] at hbi
            have HBI2 := Lib.hid hbi
            clear hall hbi
            have hbl : binLines (xs.take (i + 1)) = binLines (xs.take i) ++ numsB ns ++ [10] := by
              rw [List.take_add_one, HX.out, HNE.out]
              simp [binLines, binL]
            have HL3 := Lib.hid hbl
            have hpl : (binLines (xs.take i) ++ numsB ns).length + 1 ≤ 140737488355328 := by
              have := numsB_len ns (fun z hz => hnok.out z hz)
              have h3 := HNL.out
              rw [List.length_append]
              omega
            clear hbl
            go_wp2_with fail
            refine (writeByte_any _ _ _ 10 _ HBI2.out (by decide) hpl).mono ?_
            rintro e w4 ⟨rfl, hb4, hkb4⟩
            have hkb5 := hkb.trans (HKI.out.trans hkb4)
            have hb5 : Bu w4 w1.heap.size (binLines (xs.take (i + 1))) := by rw [HL3.out]; exact hb4
            go_wp2_with fail
            go_roundg (ko - 1)
            case measure => omega
            case rel => exact ⟨i + 1, by omega, by go_num, hb5, hkb5⟩
      · obtain rfl : i = n := by omega
        have hall : xs.take i = xs := List.take_of_length_le (by have := HL.out; omega)
        have hb2 := HBU.out
        rw [hall] at hb2
        have h200 : (binLines xs).length ≤ 133000 := by have h1 := HBL.out; have h2 := HL.out; omega
        have HB2 := Lib.hid hb2
        clear hall hb2
        go_wp2_with fail
        refine (builderLen_any _ _ _ HB2.out).mono ?_
        rintro e w' ⟨rfl, rfl⟩
        go_wp2_with fail
        refine (builderString_any _ _ _ HB2.out).mono ?_
        rintro e w' ⟨rfl, hks⟩
        have hkf : Kp Non w w' := hk0.trans hks fun i hi => .inr (Nat.le_trans hk1.size hi)
        go_wp2_with fail
        go_ret2
        exact ⟨rfl, hkf⟩
end Go.Proofs.YtcldaldfonfbgaaGreatDoor
