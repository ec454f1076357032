/- Bins: the faults of a list of bins. -/
import Derived.Test.YtcldaldfonfbgaaGreatDoorB1
set_option linter.unusedVariables false
set_option linter.unusedSimpArgs false
namespace Go.Proofs.YtcldaldfonfbgaaGreatDoor
open Go.RowKit

def bfGo (step : Int) : Option Int → List Bin → Int
  | _, [] => 0
  | p, x :: xs => if (binFault x step != 0) = true then binFault x step else if (match p with | some q => decide (x.frm ≤ q) | none => false) = true then 7 else bfGo step (some x.frm) xs
def binsFault (xs : List Bin) (step : Int) : Int := if isStepB step = false then 1 else if 5000 < xs.length then 2 else bfGo step none xs
def prevF (xs : List Bin) (i : Nat) : Option Int := if i = 0 then none else (xs[i - 1]?).map Bin.frm
theorem prevF_succ {xs : List Bin} {i : Nat} (h : i < xs.length) : prevF xs (i + 1) = some (xs[i]'h).frm := by
  simp [prevF, List.getElem?_eq_getElem h]
theorem isStepB_true {n : Int} (h : isStepB n = true) : 1 ≤ n ∧ n ≤ 86400000 := by
  unfold isStepB at h
  simp only [Bool.and_eq_true, Bool.not_eq_true'] at h
  exact outB_false h.1

theorem bin_cells {w : World} {g o n : Nat} {xs : List Bin} (h : Rd eBin w (some ⟨g, o, none⟩) n xs) (i : Nat) (hi : i < xs.length) :
    w.cell? ⟨g, o + i * 6, none⟩ = some (.int .i64 (xs[i]'hi).frm) ∧ w.cell? ⟨g, o + i * 6 + 1, none⟩ = some (.int .i64 (xs[i]'hi).sum) ∧ w.cell? ⟨g, o + i * 6 + 2, none⟩ = some (.int .i64 (xs[i]'hi).cnt) ∧
    w.cell? ⟨g, o + i * 6 + 3, none⟩ = some (.int .i64 (xs[i]'hi).oth) ∧ w.cell? ⟨g, o + i * 6 + 4, none⟩ = some (.int .i64 (xs[i]'hi).low) ∧ w.cell? ⟨g, o + i * 6 + 5, none⟩ = some (.int .i64 (xs[i]'hi).high) := by
  have hl := h.len
  obtain ⟨g', o', he, hc⟩ := h.at (by omega)
  injection he with he
  injection he with e1 e2
  subst e1; subst e2
  refine ⟨?_, ?_, ?_, ?_, ?_, ?_⟩
  · exact hc i 0 hi _ rfl
  · exact hc i 1 hi _ rfl
  · exact hc i 2 hi _ rfl
  · exact hc i 3 hi _ rfl
  · exact hc i 4 hi _ rfl
  · exact hc i 5 hi _ rfl

set_option maxHeartbeats 2000000 in
set_option maxRecDepth 100000 in
theorem checkBins_any (xs : List Bin) (A : Option Addr) (n c : Nat) (step : Int) (w : World) (hr : Rd eBin w A n xs) :
    Calls Tryz.prog 91 #[.slice A n c, .int .i64 step] w fun e w' => e = .returned (.int .i64 (binsFault xs step)) ∧ Kp Non w w' := by
  have hl := hr.len
  unfold binsFault
  have H := Lib.hid (isStep_any step)
  cases hst : isStepB step
  · rw [hst] at H
    simp only [reduceIte]
    go_enter Tryz.func91, Tryz.ntmps91
    go_wp2_with (go_at_call 99; refine (H.out _).mono ?_; rintro e w' ⟨rfl, rfl⟩)
    go_ret
    exact ⟨rfl, Kp.refl _ _⟩
  · rw [hst] at H
    obtain ⟨t0, t1⟩ := isStepB_true hst
    clear hst
    simp only [reduceIte, Bool.true_eq_false]
    by_cases hbig : 5000 < xs.length
    · simp only [hbig, reduceIte]
      rw [hl] at hbig
      clear hr hl
      go_enter Tryz.func91, Tryz.ntmps91
      go_wp2_with (go_at_call 99; refine (H.out _).mono ?_; rintro e w' ⟨rfl, rfl⟩)
      go_ret
      exact ⟨rfl, Kp.refl _ _⟩
    · simp only [hbig, reduceIte]
      rw [hl] at hbig
      have HR : Hid (bfGo step none xs = bfGo step (prevF xs 0) (xs.drop 0)) := rfl
      generalize hR : bfGo step none xs = R at *
      clear hR
      have HRd := Lib.hid hr
      have HL := Lib.hid hl
      clear hr hl
      go_enter Tryz.func91, Tryz.ntmps91
      go_wp2_with (go_at_call 99; refine (H.out _).mono ?_; rintro e w' ⟨rfl, rfl⟩)
      go_loopg [18] n (fun g s18 wr => ∃ i : Nat, i + g = n ∧ s18 = .int .i64 i ∧ Hid (R = bfGo step (prevF xs i) (xs.drop i)) ∧ Kp Non w wr)
      case atStart => exact ⟨0, by omega, rfl, HR, Kp.refl _ _⟩
      case round =>
        obtain ⟨i, hi, rfl, HI, hk⟩ := hrel
        by_cases hin : i < n
        · have hix : i < xs.length := by have := HL.out; omega
          obtain ⟨g, o, rfl, _⟩ := HRd.out.at (by omega)
          obtain ⟨c0, c1, c2, c3, c4, c5⟩ := bin_cells (HRd.out.kp0 hk) i hix
          have BF := Lib.hid (rt_binFault_any (xs[i]'hix) step)
          have HD : Hid (bfGo step (prevF xs i) (xs.drop i) = if (binFault (xs[i]'hix) step != 0) = true then binFault (xs[i]'hix) step else if (match prevF xs i with | some q => decide ((xs[i]'hix).frm ≤ q) | none => false) = true then 7 else bfGo step (some (xs[i]'hix).frm) (xs.drop (i + 1))) := by
            rw [List.drop_eq_getElem_cons hix]; rfl
          have HP := Lib.hid (prevF_succ hix)
          generalize binFault (xs[i]'hix) step = f at *
          by_cases hf : (f != 0) = true
          · have HV : Hid (R = f) := by rw [HI.out, HD.out, if_pos hf]; exact rfl
            go_wp2_with fail
            refine (BF.out _ t0 t1).mono ?_
            rintro e w1 ⟨rfl, hk1⟩
            go_wp2_with fail
            go_ret
            exact ⟨ret_int HV.out.symm, (hk.alloc _).then_ hk1⟩
          · simp only [Bool.not_eq_true] at hf
            rcases Nat.eq_zero_or_pos i with h0 | h0
            · subst h0
              simp only [Nat.zero_mul, Nat.add_zero] at c0 c1 c2 c3 c4 c5
              have HV : Hid (R = bfGo step (prevF xs (0 + 1)) (xs.drop (0 + 1))) := by rw [HI.out, HD.out, if_neg (by simp [hf]), HP.out]; exact rfl
              go_wp2_with fail
              refine (BF.out _ t0 t1).mono ?_
              rintro e w1 ⟨rfl, hk1⟩
              have hkk := (hk.alloc (.cells #[.int .i64 (xs[0]'hix).frm, .int .i64 (xs[0]'hix).sum, .int .i64 (xs[0]'hix).cnt, .int .i64 (xs[0]'hix).oth, .int .i64 (xs[0]'hix).low, .int .i64 (xs[0]'hix).high] 39)).then_ hk1
              go_wp2_with fail
              go_quiet (fail)
              go_wp2_with fail
              go_roundg (n - 1)
              case measure => omega
              case rel => exact ⟨1, by omega, by go_num, HV.out, hkk.drewN _⟩
            · obtain ⟨j, rfl⟩ : ∃ j, i = j + 1 := ⟨i - 1, by omega⟩
              have hjx : j < xs.length := by omega
              obtain ⟨d0, _⟩ := bin_cells (HRd.out.kp0 hk) j hjx
              have HQ : Hid (prevF xs (j + 1) = some (xs[j]'hjx).frm) := prevF_succ hjx
              have HD2 : Hid (R = if (xs[j + 1]'hix).frm ≤ (xs[j]'hjx).frm then 7 else bfGo step (prevF xs (j + 1 + 1)) (xs.drop (j + 1 + 1))) := by
                have h1 := HI.out
                rw [HD.out, HQ.out, if_neg (by simp [hf]), ← HP.out] at h1
                simpa [Hid] using h1
              have CE : Hid (∀ W, Kp Non wr W → W.cell? ⟨g, o + j * 6, none⟩ = some (.int .i64 (xs[j]'hjx).frm)) := fun W hW => hW.cell (p := ⟨g, o + j * 6, none⟩) (non_not _) d0
              clear HD
              generalize (xs[j]'hjx).frm = q at *
              have hnew : ∀ W, Kp Non (wr.alloc (.cells #[.int .i64 (xs[j + 1]'hix).frm, .int .i64 (xs[j + 1]'hix).sum, .int .i64 (xs[j + 1]'hix).cnt, .int .i64 (xs[j + 1]'hix).oth, .int .i64 (xs[j + 1]'hix).low, .int .i64 (xs[j + 1]'hix).high] 39)) W →
                  W.cell? ⟨wr.heap.size, 0, none⟩ = some (.int .i64 (xs[j + 1]'hix).frm) ∧ W.cell? ⟨g, o + j * 6, none⟩ = some (.int .i64 q) ∧ Kp Non w W := fun W hW =>
                ⟨hW.cell (p := ⟨wr.heap.size, 0, none⟩) (non_not _) (cell_new0 _ _ _ rfl), hW.cell (p := ⟨g, o + j * 6, none⟩) (non_not _) (((Kp.refl Non wr).alloc _).cell (p := ⟨g, o + j * 6, none⟩) (non_not _) d0), (hk.alloc _).then_ hW⟩
              have HN := Lib.hid hnew
              clear hnew CE d0
              by_cases hle : (xs[j + 1]'hix).frm ≤ q
              all_goals
                have HV := HD2.out
                simp only [hle, reduceIte] at HV
                have HV := Lib.hid HV
                go_wp2_with fail
                refine (BF.out _ t0 t1).mono ?_
                rintro e w1 ⟨rfl, hk1⟩
                obtain ⟨e0, e1, hkk⟩ := HN.out _ hk1
                clear hk1
                go_wp2_with fail
                go_quiet (fail)
                go_wp2_with fail
              · go_ret
                exact ⟨ret_int HV.out.symm, hkk.drewN _⟩
              · go_roundg (gk - 1)
                case measure => omega
                case rel => exact ⟨j + 1 + 1, by omega, by go_num, HV.out, hkk.drewN _⟩
        · go_wp2_with fail
          go_ret
          have : i = xs.length := by have := HL.out; omega
          refine ⟨ret_int ?_, hk⟩
          rw [HI.out, this, List.drop_length]
          exact (bfGo.eq_1 _ _).symm
set_option maxHeartbeats 2000000 in
set_option maxRecDepth 100000 in
theorem qbinsFault_any (xs : List Bin) (A : Option Addr) (n c : Nat) (step : Int) (w : World) (hr : Rd eBin w A n xs) :
    Calls Tryz.prog 14 #[.slice A n c, .int .i64 step] w fun e w' => e = .returned (.int .i64 (binsFault xs step)) ∧ Kp Non w w' := by
  have hl := hr.len
  unfold binsFault
  have H := Lib.hid (stepFault_any step)
  cases hst : isStepB step
  · rw [hst] at H
    simp only [reduceIte, Bool.false_eq_true] at H ⊢
    go_enter Tryz.func14, Tryz.ntmps14
    go_wp2_with (go_at_call 85; refine (H.out _).mono ?_; rintro e w' ⟨rfl, rfl⟩)
    go_ret
    exact ⟨rfl, Kp.refl _ _⟩
  · rw [hst] at H
    simp only [reduceIte] at H
    obtain ⟨t0, t1⟩ := isStepB_true hst
    clear hst
    simp only [reduceIte, Bool.true_eq_false]
    by_cases hbig : 5000 < xs.length
    · simp only [hbig, reduceIte]
      rw [hl] at hbig
      clear hr hl
      go_enter Tryz.func14, Tryz.ntmps14
      go_wp2_with (go_at_call 85; refine (H.out _).mono ?_; rintro e w' ⟨rfl, rfl⟩)
      go_ret
      exact ⟨rfl, Kp.refl _ _⟩
    · simp only [hbig, reduceIte]
      rw [hl] at hbig
      have HR : Hid (bfGo step none xs = bfGo step (prevF xs 0) (xs.drop 0)) := rfl
      generalize hR : bfGo step none xs = R at *
      clear hR
      have HRd := Lib.hid hr
      have HL := Lib.hid hl
      clear hr hl
      go_enter Tryz.func14, Tryz.ntmps14
      go_wp2_with (go_at_call 85; refine (H.out _).mono ?_; rintro e w' ⟨rfl, rfl⟩)
      go_loopg [19] n (fun g s18 wr => ∃ i : Nat, i + g = n ∧ s18 = .int .i64 i ∧ Hid (R = bfGo step (prevF xs i) (xs.drop i)) ∧ Kp Non w wr)
      case atStart => exact ⟨0, by omega, rfl, HR, Kp.refl _ _⟩
      case round =>
        obtain ⟨i, hi, rfl, HI, hk⟩ := hrel
        by_cases hin : i < n
        · have hix : i < xs.length := by have := HL.out; omega
          obtain ⟨g, o, rfl, _⟩ := HRd.out.at (by omega)
          obtain ⟨c0, c1, c2, c3, c4, c5⟩ := bin_cells (HRd.out.kp0 hk) i hix
          have BF := Lib.hid (q_binFault_any (xs[i]'hix) step)
          have HD : Hid (bfGo step (prevF xs i) (xs.drop i) = if (binFault (xs[i]'hix) step != 0) = true then binFault (xs[i]'hix) step else if (match prevF xs i with | some q => decide ((xs[i]'hix).frm ≤ q) | none => false) = true then 7 else bfGo step (some (xs[i]'hix).frm) (xs.drop (i + 1))) := by
            rw [List.drop_eq_getElem_cons hix]; rfl
          have HP := Lib.hid (prevF_succ hix)
          generalize binFault (xs[i]'hix) step = f at *
          by_cases hf : (f != 0) = true
          · have HV : Hid (R = f) := by rw [HI.out, HD.out, if_pos hf]; exact rfl
            go_wp2_with fail
            refine (BF.out _ t0 t1).mono ?_
            rintro e w1 ⟨rfl, hk1⟩
            go_wp2_with fail
            go_ret
            exact ⟨ret_int HV.out.symm, (hk.alloc _).then_ hk1⟩
          · simp only [Bool.not_eq_true] at hf
            rcases Nat.eq_zero_or_pos i with h0 | h0
            · subst h0
              simp only [Nat.zero_mul, Nat.add_zero] at c0 c1 c2 c3 c4 c5
              have HV : Hid (R = bfGo step (prevF xs (0 + 1)) (xs.drop (0 + 1))) := by rw [HI.out, HD.out, if_neg (by simp [hf]), HP.out]; exact rfl
              go_wp2_with fail
              refine (BF.out _ t0 t1).mono ?_
              rintro e w1 ⟨rfl, hk1⟩
              have hkk := (hk.alloc (.cells #[.int .i64 (xs[0]'hix).frm, .int .i64 (xs[0]'hix).sum, .int .i64 (xs[0]'hix).cnt, .int .i64 (xs[0]'hix).oth, .int .i64 (xs[0]'hix).low, .int .i64 (xs[0]'hix).high] 39)).then_ hk1
              go_wp2_with fail
              go_quiet (fail)
              go_wp2_with fail
              go_roundg (n - 1)
              case measure => omega
              case rel => exact ⟨1, by omega, by go_num, HV.out, hkk.drewN _⟩
            · obtain ⟨j, rfl⟩ : ∃ j, i = j + 1 := ⟨i - 1, by omega⟩
              have hjx : j < xs.length := by omega
              obtain ⟨d0, _⟩ := bin_cells (HRd.out.kp0 hk) j hjx
              have HQ : Hid (prevF xs (j + 1) = some (xs[j]'hjx).frm) := prevF_succ hjx
              have HD2 : Hid (R = if (xs[j + 1]'hix).frm ≤ (xs[j]'hjx).frm then 7 else bfGo step (prevF xs (j + 1 + 1)) (xs.drop (j + 1 + 1))) := by
                have h1 := HI.out
                rw [HD.out, HQ.out, if_neg (by simp [hf]), ← HP.out] at h1
                simpa [Hid] using h1
              have CE : Hid (∀ W, Kp Non wr W → W.cell? ⟨g, o + j * 6, none⟩ = some (.int .i64 (xs[j]'hjx).frm)) := fun W hW => hW.cell (p := ⟨g, o + j * 6, none⟩) (non_not _) d0
              clear HD
              generalize (xs[j]'hjx).frm = q at *
              have hnew : ∀ W, Kp Non (wr.alloc (.cells #[.int .i64 (xs[j + 1]'hix).frm, .int .i64 (xs[j + 1]'hix).sum, .int .i64 (xs[j + 1]'hix).cnt, .int .i64 (xs[j + 1]'hix).oth, .int .i64 (xs[j + 1]'hix).low, .int .i64 (xs[j + 1]'hix).high] 39)) W →
                  W.cell? ⟨wr.heap.size, 0, none⟩ = some (.int .i64 (xs[j + 1]'hix).frm) ∧ W.cell? ⟨g, o + j * 6, none⟩ = some (.int .i64 q) ∧ Kp Non w W := fun W hW =>
                ⟨hW.cell (p := ⟨wr.heap.size, 0, none⟩) (non_not _) (cell_new0 _ _ _ rfl), hW.cell (p := ⟨g, o + j * 6, none⟩) (non_not _) (((Kp.refl Non wr).alloc _).cell (p := ⟨g, o + j * 6, none⟩) (non_not _) d0), (hk.alloc _).then_ hW⟩
              have HN := Lib.hid hnew
              clear hnew CE d0
              by_cases hle : (xs[j + 1]'hix).frm ≤ q
              all_goals
                have HV := HD2.out
                simp only [hle, reduceIte] at HV
                have HV := Lib.hid HV
                go_wp2_with fail
                refine (BF.out _ t0 t1).mono ?_
                rintro e w1 ⟨rfl, hk1⟩
                obtain ⟨e0, e1, hkk⟩ := HN.out _ hk1
                clear hk1
                go_wp2_with fail
                go_quiet (fail)
                go_wp2_with fail
              · go_ret
                exact ⟨ret_int HV.out.symm, hkk.drewN _⟩
              · go_roundg (gk - 1)
                case measure => omega
                case rel => exact ⟨j + 1 + 1, by omega, by go_num, HV.out, hkk.drewN _⟩
        · go_wp2_with fail
          go_ret
          have : i = xs.length := by have := HL.out; omega
          refine ⟨ret_int ?_, hk⟩
          rw [HI.out, this, List.drop_length]
          exact (bfGo.eq_1 _ _).symm
end Go.Proofs.YtcldaldfonfbgaaGreatDoor
