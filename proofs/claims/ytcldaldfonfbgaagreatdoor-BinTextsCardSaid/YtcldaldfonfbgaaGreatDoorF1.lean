/- Samples: the faults of a sample and of a series, in the program and in the reference. -/
import Derived.Test.YtcldaldfonfbgaaGreatDoorB3
import Derived.BigQuiet
set_option linter.unusedVariables false
set_option linter.unusedSimpArgs false
namespace Go.Proofs.YtcldaldfonfbgaaGreatDoor
open Go.RowKit

def sampleFault (x : Smp) : Int := if momentB x.at_ = false then 1 else if outB x.q 0 2 = true then 4 else if outB x.val (-1000000) 1000000 = true then 1 else if (x.q == 2) = true then (if (x.val != 0) = true then 3 else 0) else 0
def sfGo : Option Int → List Smp → Int
  | _, [] => 0
  | p, x :: xs => if (sampleFault x != 0) = true then sampleFault x else if (match p with | some q => decide (x.at_ ≤ q) | none => false) = true then 7 else sfGo (some x.at_) xs
def seriesFault (xs : List Smp) : Int := if 5000 < xs.length then 2 else sfGo none xs
def prevS (xs : List Smp) (i : Nat) : Option Int := if i = 0 then none else (xs[i - 1]?).map Smp.at_
theorem prevS_succ {xs : List Smp} {i : Nat} (h : i < xs.length) : prevS xs (i + 1) = some (xs[i]'h).at_ := by
  simp [prevS, List.getElem?_eq_getElem h]

set_option maxHeartbeats 4000000 in
set_option maxRecDepth 100000 in
theorem checkSample_any (x : Smp) (w : World) :
    Calls Tryz.prog 140 #[.agg #[.int .i64 x.at_, .int .i64 x.val, .int .i64 x.q]] w
      fun e w' => e = .returned (.int .i64 (sampleFault x)) ∧ Kp Non w w' := by
  obtain ⟨a, v, q⟩ := x
  simp only [sampleFault]
  refine if a1 : momentB a = false then ?_ else if a2 : outB q 0 2 = true then ?_ else if a3 : outB v (-1000000) 1000000 = true then ?_ else if a4 : (q == 2) = true then (if a5 : (v != 0) = true then ?_ else ?_) else ?_
  all_goals
    try simp only [Bool.not_eq_true, Bool.not_eq_false] at *
    simp only [*, reduceIte, Bool.false_eq_true, Bool.true_eq_false]
    go_enter Tryz.func140, Tryz.ntmps140
    go_wp2_with (first | (go_at_call 151; refine (moment_any _ _).mono ?_; rintro e w' ⟨rfl, rfl⟩) | (go_at_call 161; refine (out_any _ _ _ _).mono ?_; rintro e w' ⟨rfl, rfl⟩))
    go_ret
    exact ⟨rfl, by repeat (first | exact Kp.refl _ _ | apply Kp.alloc)⟩

set_option maxHeartbeats 4000000 in
set_option maxRecDepth 100000 in
theorem checkSeries_any (xs : List Smp) (A : Option Addr) (n c : Nat) (w : World) (hr : Rd eSmp w A n xs) :
    Calls Tryz.prog 38 #[.slice A n c] w fun e w' => e = .returned (.int .i64 (seriesFault xs)) ∧ Kp Non w w' := by
  have hl := hr.len
  unfold seriesFault
  by_cases hbig : 5000 < xs.length
  · simp only [hbig, reduceIte]
    rw [hl] at hbig
    clear hr hl
    go_enter Tryz.func38, Tryz.ntmps38
    go_wp2_with fail
    go_ret
    exact ⟨rfl, Kp.refl _ _⟩
  · simp only [hbig, reduceIte]
    rw [hl] at hbig
    have HR : Hid (sfGo none xs = sfGo (prevS xs 0) (xs.drop 0)) := rfl
    generalize hR : sfGo none xs = R at *
    clear hR
    have HRd := Lib.hid hr
    have HL := Lib.hid hl
    clear hr hl
    go_enter Tryz.func38, Tryz.ntmps38
    go_wp2_with fail
    go_loopg [11] n (fun g s11 wr => ∃ i : Nat, i + g = n ∧ s11 = .int .i64 i ∧ Hid (R = sfGo (prevS xs i) (xs.drop i)) ∧ Kp Non w wr)
    case atStart => exact ⟨0, by omega, rfl, HR, Kp.refl _ _⟩
    case round =>
      obtain ⟨i, hi, rfl, HI, hk⟩ := hrel
      by_cases hin : i < n
      · have hix : i < xs.length := by have := HL.out; omega
        obtain ⟨g, o, rfl, _⟩ := HRd.out.at (by omega)
        obtain ⟨c0, c1, c2⟩ := smp_cells (HRd.out.kp0 hk) i hix
        have BF := Lib.hid (fun W => checkSample_any (xs[i]'hix) W)
        have HD : Hid (sfGo (prevS xs i) (xs.drop i) = if (sampleFault (xs[i]'hix) != 0) = true then sampleFault (xs[i]'hix) else if (match prevS xs i with | some q => decide ((xs[i]'hix).at_ ≤ q) | none => false) = true then 7 else sfGo (some (xs[i]'hix).at_) (xs.drop (i + 1))) := by
          rw [List.drop_eq_getElem_cons hix]; rfl
        have HP := Lib.hid (prevS_succ hix)
        generalize sampleFault (xs[i]'hix) = f at *
        by_cases hf : (f != 0) = true
        · have HV : Hid (R = f) := by rw [HI.out, HD.out, if_pos hf]; exact rfl
          go_wp2_with fail
          refine (BF.out _).mono ?_
          rintro e w1 ⟨rfl, hk1⟩
          go_wp2_with fail
          go_ret
          exact ⟨ret_int HV.out.symm, (hk.alloc _).then_ hk1⟩
        · simp only [Bool.not_eq_true] at hf
          rcases Nat.eq_zero_or_pos i with h0 | h0
          · subst h0
            simp only [Nat.zero_mul, Nat.add_zero] at c0 c1 c2
            have HV : Hid (R = sfGo (prevS xs (0 + 1)) (xs.drop (0 + 1))) := by rw [HI.out, HD.out, if_neg (by simp [hf]), HP.out]; exact rfl
            go_wp2_with fail
            refine (BF.out _).mono ?_
            rintro e w1 ⟨rfl, hk1⟩
            have hkk := (hk.alloc (.cells #[.int .i64 (xs[0]'hix).at_, .int .i64 (xs[0]'hix).val, .int .i64 (xs[0]'hix).q] 53)).then_ hk1
            go_wp2_with fail
            go_quiet (fail)
            go_wp2_with fail
            go_roundg (n - 1)
            case measure => omega
            case rel => exact ⟨1, by omega, by go_num, HV.out, hkk.drewN _⟩
          · obtain ⟨j, rfl⟩ : ∃ j, i = j + 1 := ⟨i - 1, by omega⟩
            have hjx : j < xs.length := by omega
            obtain ⟨d0, _⟩ := smp_cells (HRd.out.kp0 hk) j hjx
            have HQ : Hid (prevS xs (j + 1) = some (xs[j]'hjx).at_) := prevS_succ hjx
            have HD2 : Hid (R = if (xs[j + 1]'hix).at_ ≤ (xs[j]'hjx).at_ then 7 else sfGo (prevS xs (j + 1 + 1)) (xs.drop (j + 1 + 1))) := by
              have h1 := HI.out
              rw [HD.out, HQ.out, if_neg (by simp [hf]), ← HP.out] at h1
              simpa [Hid] using h1
            clear HD
            generalize (xs[j]'hjx).at_ = q at *
            have hnew : ∀ W, Kp Non (wr.alloc (.cells #[.int .i64 (xs[j + 1]'hix).at_, .int .i64 (xs[j + 1]'hix).val, .int .i64 (xs[j + 1]'hix).q] 53)) W →
                W.cell? ⟨wr.heap.size, 0, none⟩ = some (.int .i64 (xs[j + 1]'hix).at_) ∧ W.cell? ⟨g, o + j * 3, none⟩ = some (.int .i64 q) ∧ Kp Non w W := fun W hW =>
              ⟨hW.cell (p := ⟨wr.heap.size, 0, none⟩) (non_not _) (cell_new0 _ _ _ rfl), hW.cell (p := ⟨g, o + j * 3, none⟩) (non_not _) (((Kp.refl Non wr).alloc _).cell (p := ⟨g, o + j * 3, none⟩) (non_not _) d0), (hk.alloc _).then_ hW⟩
            have HN := Lib.hid hnew
            clear hnew d0
            by_cases hle : (xs[j + 1]'hix).at_ ≤ q
            all_goals
              have HV := HD2.out
              simp only [hle, reduceIte] at HV
              have HV := Lib.hid HV
              go_wp2_with fail
              refine (BF.out _).mono ?_
              rintro e w1 ⟨rfl, hk1⟩
              obtain ⟨e0, e1, hkk⟩ := HN.out _ hk1
              clear hk1
              go_wp2_with fail
              go_quiet (fail)
              go_wp2_with fail
            · go_ret
              exact ⟨ret_int HV.out.symm, hkk.drewN _⟩
            · go_roundg (gk - 1)
              case measure => omega
              case rel => exact ⟨j + 1 + 1, by omega, by go_num, HV.out, hkk.drewN _⟩
      · go_wp2_with fail
        go_ret
        have : i = xs.length := by have := HL.out; omega
        refine ⟨ret_int ?_, hk⟩
        rw [HI.out, this, List.drop_length]
        exact (sfGo.eq_1 _).symm

set_option maxHeartbeats 4000000 in
set_option maxRecDepth 100000 in
theorem qsampleFault_any (x : Smp) (w : World) :
    Calls Tryz.prog 119 #[.agg #[.int .i64 x.at_, .int .i64 x.val, .int .i64 x.q]] w
      fun e w' => e = .returned (.int .i64 (sampleFault x)) ∧ Kp Non w w' := by
  obtain ⟨a, v, q⟩ := x
  simp only [sampleFault]
  refine if a1 : momentB a = false then ?_ else if a2 : outB q 0 2 = true then ?_ else if a3 : outB v (-1000000) 1000000 = true then ?_ else if a4 : (q == 2) = true then (if a5 : (v != 0) = true then ?_ else ?_) else ?_
  all_goals
    try simp only [Bool.not_eq_true, Bool.not_eq_false] at *
    simp only [*, reduceIte, Bool.false_eq_true, Bool.true_eq_false]
    go_enter Tryz.func119, Tryz.ntmps119
    go_wp2_with (first | (go_at_call 117; refine (qmoment_any _ _).mono ?_; rintro e w' ⟨rfl, rfl⟩) | (go_at_call 118; refine (in_any _ _ _ _).mono ?_; rintro e w' ⟨rfl, rfl⟩))
    go_ret
    exact ⟨rfl, by repeat (first | exact Kp.refl _ _ | apply Kp.alloc)⟩

set_option maxHeartbeats 4000000 in
set_option maxRecDepth 100000 in
theorem qseriesFault_any (xs : List Smp) (A : Option Addr) (n c : Nat) (w : World) (hr : Rd eSmp w A n xs) :
    Calls Tryz.prog 261 #[.slice A n c] w fun e w' => e = .returned (.int .i64 (seriesFault xs)) ∧ Kp Non w w' := by
  have hl := hr.len
  unfold seriesFault
  by_cases hbig : 5000 < xs.length
  · simp only [hbig, reduceIte]
    rw [hl] at hbig
    clear hr hl
    go_enter Tryz.func261, Tryz.ntmps261
    go_wp2_with fail
    go_ret
    exact ⟨rfl, Kp.refl _ _⟩
  · simp only [hbig, reduceIte]
    rw [hl] at hbig
    have HR : Hid (sfGo none xs = sfGo (prevS xs 0) (xs.drop 0)) := rfl
    generalize hR : sfGo none xs = R at *
    clear hR
    have HRd := Lib.hid hr
    have HL := Lib.hid hl
    clear hr hl
    go_enter Tryz.func261, Tryz.ntmps261
    go_wp2_with fail
    go_loopg [11] n (fun g s11 wr => ∃ i : Nat, i + g = n ∧ s11 = .int .i64 i ∧ Hid (R = sfGo (prevS xs i) (xs.drop i)) ∧ Kp Non w wr)
    case atStart => exact ⟨0, by omega, rfl, HR, Kp.refl _ _⟩
    case round =>
      obtain ⟨i, hi, rfl, HI, hk⟩ := hrel
      by_cases hin : i < n
      · have hix : i < xs.length := by have := HL.out; omega
        obtain ⟨g, o, rfl, _⟩ := HRd.out.at (by omega)
        obtain ⟨c0, c1, c2⟩ := smp_cells (HRd.out.kp0 hk) i hix
        have BF := Lib.hid (fun W => qsampleFault_any (xs[i]'hix) W)
        have HD : Hid (sfGo (prevS xs i) (xs.drop i) = if (sampleFault (xs[i]'hix) != 0) = true then sampleFault (xs[i]'hix) else if (match prevS xs i with | some q => decide ((xs[i]'hix).at_ ≤ q) | none => false) = true then 7 else sfGo (some (xs[i]'hix).at_) (xs.drop (i + 1))) := by
          rw [List.drop_eq_getElem_cons hix]; rfl
        have HP := Lib.hid (prevS_succ hix)
        generalize sampleFault (xs[i]'hix) = f at *
        by_cases hf : (f != 0) = true
        · have HV : Hid (R = f) := by rw [HI.out, HD.out, if_pos hf]; exact rfl
          go_wp2_with fail
          refine (BF.out _).mono ?_
          rintro e w1 ⟨rfl, hk1⟩
          go_wp2_with fail
          go_ret
          exact ⟨ret_int HV.out.symm, (hk.alloc _).then_ hk1⟩
        · simp only [Bool.not_eq_true] at hf
          rcases Nat.eq_zero_or_pos i with h0 | h0
          · subst h0
            simp only [Nat.zero_mul, Nat.add_zero] at c0 c1 c2
            have HV : Hid (R = sfGo (prevS xs (0 + 1)) (xs.drop (0 + 1))) := by rw [HI.out, HD.out, if_neg (by simp [hf]), HP.out]; exact rfl
            go_wp2_with fail
            refine (BF.out _).mono ?_
            rintro e w1 ⟨rfl, hk1⟩
            have hkk := (hk.alloc (.cells #[.int .i64 (xs[0]'hix).at_, .int .i64 (xs[0]'hix).val, .int .i64 (xs[0]'hix).q] 53)).then_ hk1
            go_wp2_with fail
            go_quiet (fail)
            go_wp2_with fail
            go_roundg (n - 1)
            case measure => omega
            case rel => exact ⟨1, by omega, by go_num, HV.out, hkk.drewN _⟩
          · obtain ⟨j, rfl⟩ : ∃ j, i = j + 1 := ⟨i - 1, by omega⟩
            have hjx : j < xs.length := by omega
            obtain ⟨d0, _⟩ := smp_cells (HRd.out.kp0 hk) j hjx
            have HQ : Hid (prevS xs (j + 1) = some (xs[j]'hjx).at_) := prevS_succ hjx
            have HD2 : Hid (R = if (xs[j + 1]'hix).at_ ≤ (xs[j]'hjx).at_ then 7 else sfGo (prevS xs (j + 1 + 1)) (xs.drop (j + 1 + 1))) := by
              have h1 := HI.out
              rw [HD.out, HQ.out, if_neg (by simp [hf]), ← HP.out] at h1
              simpa [Hid] using h1
            clear HD
            generalize (xs[j]'hjx).at_ = q at *
            have hnew : ∀ W, Kp Non (wr.alloc (.cells #[.int .i64 (xs[j + 1]'hix).at_, .int .i64 (xs[j + 1]'hix).val, .int .i64 (xs[j + 1]'hix).q] 53)) W →
                W.cell? ⟨wr.heap.size, 0, none⟩ = some (.int .i64 (xs[j + 1]'hix).at_) ∧ W.cell? ⟨g, o + j * 3, none⟩ = some (.int .i64 q) ∧ Kp Non w W := fun W hW =>
              ⟨hW.cell (p := ⟨wr.heap.size, 0, none⟩) (non_not _) (cell_new0 _ _ _ rfl), hW.cell (p := ⟨g, o + j * 3, none⟩) (non_not _) (((Kp.refl Non wr).alloc _).cell (p := ⟨g, o + j * 3, none⟩) (non_not _) d0), (hk.alloc _).then_ hW⟩
            have HN := Lib.hid hnew
            clear hnew d0
            by_cases hle : (xs[j + 1]'hix).at_ ≤ q
            all_goals
              have HV := HD2.out
              simp only [hle, reduceIte] at HV
              have HV := Lib.hid HV
              go_wp2_with fail
              refine (BF.out _).mono ?_
              rintro e w1 ⟨rfl, hk1⟩
              obtain ⟨e0, e1, hkk⟩ := HN.out _ hk1
              clear hk1
              go_wp2_with fail
              go_quiet (fail)
              go_wp2_with fail
            · go_ret
              exact ⟨ret_int HV.out.symm, hkk.drewN _⟩
            · go_roundg (gk - 1)
              case measure => omega
              case rel => exact ⟨j + 1 + 1, by omega, by go_num, HV.out, hkk.drewN _⟩
      · go_wp2_with fail
        go_ret
        have : i = xs.length := by have := HL.out; omega
        refine ⟨ret_int ?_, hk⟩
        rw [HI.out, this, List.drop_length]
        exact (sfGo.eq_1 _).symm
end Go.Proofs.YtcldaldfonfbgaaGreatDoor
