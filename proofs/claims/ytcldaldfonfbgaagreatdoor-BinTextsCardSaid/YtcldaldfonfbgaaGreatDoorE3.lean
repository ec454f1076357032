/- The reference's Lines, over whatever closure takes the lines. -/
import Derived.Test.YtcldaldfonfbgaaGreatDoorE2
set_option linter.unusedVariables false
set_option linter.unusedSimpArgs false
namespace Go.Proofs.YtcldaldfonfbgaaGreatDoor
open Go.RowKit

set_option maxHeartbeats 4000000 in
set_option maxRecDepth 100000 in
theorem qlines_any {N p T M : Nat} {σ : Type} {st : σ → List UInt8 → Bool × σ} {I : Nat → σ → World → Prop} (hT : Taker N p T M st I) (hM : M ≤ 1000000) (t : ByteArray) (s0 : σ) (w : World) (hI : I 0 s0 w) (ht : t.size < M) :
    Calls Tryz.prog 104 #[.string t, .func (.func N) #[] #[.pointer (some ⟨p, 0, none⟩)]] w
      fun e w' => e = .returned (.tuple #[.int .i64 (readGo st s0 (linesOf t.data.toList).1 (linesOf t.data.toList).2 0).1, .bool (readGo st s0 (linesOf t.data.toList).1 (linesOf t.data.toList).2 0).2.1]) ∧
        (∃ i, I i (readGo st s0 (linesOf t.data.toList).1 (linesOf t.data.toList).2 0).2.2 w' ∧ i ≤ M) ∧ KO p T w w' := by
  have hen := hT.enters
  have hlen := lines_len t.data.toList
  have hml := lines_mem_len t.data.toList
  have htl := Lib.size_eq t
  have hgl := lines_glue t.data.toList
  have hgd := lines_good t.data.toList
  rw [← htl] at hlen hml
  generalize linesOf t.data.toList = L at *
  obtain ⟨L, ends⟩ := L
  have HML := Lib.hid hml
  have HT := Lib.hid hT
  have HI := Lib.hid hI
  have hbt : t = bs (glue L ends) := by rw [← bs_data t]; exact congrArg bs hgl.symm
  have hsz : (glue L ends).length ≤ t.size := by rw [htl]; exact Nat.le_of_eq (congrArg List.length hgl)
  have HGD := Lib.hid hgd
  clear hml hT hI hgl hgd
  dsimp only
  generalize hR : readGo st s0 L ends 0 = R
  have HRR := Lib.hid hR
  have HSZ := Lib.hid hsz
  have HBT := Lib.hid hbt
  clear hR hsz hbt
  go_enter Tryz.func104, Tryz.ntmps104
  go_wp2_with fail
  go_loopg [0, 6] L.length (fun k v0 v6 wr => ∃ (i : Nat) (s : σ), i + k = L.length ∧ v0 = .string (bs (glue (L.drop i) ends)) ∧ v6 = .int .i64 i ∧ I i s wr ∧ KO p T w wr ∧ readGo st s (L.drop i) ends i = R ∧ goodL (L.drop i) ends ∧ (glue (L.drop i) ends).length ≤ t.size)
  case atStart => exact ⟨0, s0, by omega, congrArg Value.string HBT.out, rfl, HI.out, KO.refl _ _ _, HRR.out, HGD.out, HSZ.out⟩
  case round =>
    obtain ⟨i, s, hi, rfl, rfl, hIs, hko, hRs, hgo, hsz⟩ := hrel
    have HIS := Lib.hid hIs
    have HKO := Lib.hid hko
    by_cases hin : i < L.length
    · obtain ⟨l, hl⟩ : ∃ l, L[i]? = some l := ⟨_, List.getElem?_eq_getElem (by omega)⟩
      have hdr : L.drop i = l :: L.drop (i + 1) := by
        obtain ⟨h1, h2⟩ := List.getElem?_eq_some_iff.1 hl
        rw [← h2]
        exact List.drop_eq_getElem_cons h1
      have hll := HML.out l (List.mem_of_getElem? hl)
      rw [hdr] at hRs hgo hsz ⊢
      have hg1 := glue_ne l _ ends hgo
      have hg2 := cut_glue l _ ends hgo
      have hg3 := glue_len l (L.drop (i + 1)) ends
      have hgo2 := hgo.2.2
      obtain ⟨m, hm⟩ := (HT.out.env _ _ _ hIs).maxLen
      have cl := HT.out.call i s l
      rw [readGo] at hRs
      generalize hG : glue (l :: L.drop (i + 1)) ends = G at *
      have hne : (bs G).toList.isEmpty = false := by rw [ByteArray.toList_eq]; simpa [bs] using hg1
      have ct := Tryz.strings_Cut (bs G) ⟨#[10]⟩ m wr (by show G.length < _; omega) hm
      have e1 : (bs G).data.toList = G := by simp [bs]
      have e2 : (⟨#[10]⟩ : ByteArray).data.toList = [10] := rfl
      rw [e1, e2, hg2] at ct
      have hde : ((L.drop (i + 1)).isEmpty && !ends) = decide (L.drop (i + 1) = [] ∧ ends = false) := by
        cases L.drop (i + 1) <;> cases ends <;> simp
      rw [hde] at hRs
      clear hg2
      generalize hD : L.drop (i + 1) = D at *
      have HDD := Lib.hid hD
      have HGO := Lib.hid hgo2
      have HCL := Lib.hid cl
      clear hg1 hgo hgo2 e1 e2 hm hde hD hdr hG hl cl hIs hko
      by_cases hlast : D = [] ∧ ends = false
      · rw [if_pos hlast] at ct
        rw [if_pos (by simpa using hlast)] at hRs
        obtain ⟨h1, rfl⟩ := hlast
        have CT := Lib.hid ct
        subst hRs
        clear ct h1
        go_wp2_with fail
        refine CT.out.mono ?_
        rintro e w2 ⟨rfl, dn, rfl⟩
        go_wp2_with fail
        go_ret2
        exact ⟨rfl, ⟨i, HT.out.kp _ _ _ _ HIS.out ((Kp.refl _ _).drewN dn), by omega⟩, HKO.out.drewN dn⟩
      · rw [if_neg hlast] at ct
        rw [if_neg (by simpa using hlast)] at hRs
        have CT := Lib.hid ct
        have cl := fun n => HCL.out (wr.drewN n) (HT.out.kp _ _ _ _ HIS.out ((Kp.refl _ _).drewN n)) (by omega) (by omega)
        clear ct hlast HCL
        by_cases hb : (st s l).1 = true
        · rw [if_pos hb] at hRs
          rw [hb] at cl
          have HRS := Lib.hid hRs
          have CL := Lib.hid cl
          clear hRs hb cl
          go_wp2_with fail
          refine CT.out.mono ?_
          rintro e w2 ⟨rfl, dn, rfl⟩
          go_wp2_with fail
          refine (CL.out dn).mono ?_
          rintro e w2 ⟨rfl, hI2, hk2⟩
          have HI2 := Lib.hid hI2
          have hko2 := (HKO.out.drewN dn).trans hk2
          clear hI2
          go_wp2_with fail
          go_roundg (gk - 1)
          case measure => omega
          case rel => 
            rw [← HDD.out] at HRS HGO hg3
            exact ⟨i + 1, (st s l).2, by omega, by rw [HDD.out]; rfl, by go_num, HI2.out, hko2, HRS.out, HGO.out, by omega⟩
        · rw [if_neg hb] at hRs
          have hb' : (st s l).1 = false := by simpa using hb
          rw [hb'] at cl
          have CL := Lib.hid cl
          subst hRs
          clear hb hb' cl
          go_wp2_with fail
          refine CT.out.mono ?_
          rintro e w2 ⟨rfl, dn, rfl⟩
          go_wp2_with fail
          refine (CL.out dn).mono ?_
          rintro e w2 ⟨rfl, hI2, hk2⟩
          have HI2 := Lib.hid hI2
          have hko2 := (HKO.out.drewN dn).trans hk2
          clear hI2
          go_wp2_with fail
          go_ret2
          exact ⟨rfl, ⟨i + 1, HI2.out, by omega⟩, hko2⟩
    · obtain rfl : i = L.length := by omega
      have hd : L.drop L.length = [] := List.drop_length
      rw [hd, readGo] at hRs
      rw [hd]
      have hb0 : bs (glue ([] : List (List UInt8)) ends) = ⟨#[]⟩ := rfl
      rw [hb0]
      subst hRs
      clear hgo hsz hd hb0
      go_wp2_with fail
      go_ret2
      exact ⟨rfl, ⟨_, HIS.out, by omega⟩, hko⟩
end Go.Proofs.YtcldaldfonfbgaaGreatDoor
