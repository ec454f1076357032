/- The law's own check that package retain makes bins, and slices.Equal of bins. -/
import Derived.Test.YtcldaldfonfbgaaGreatDoorE8
import Derived.Test.YtcldaldfonfbgaaGreatDoorF1
set_option linter.unusedVariables false
set_option linter.unusedSimpArgs false
namespace Go.Proofs.YtcldaldfonfbgaaGreatDoor
open Go.RowKit

set_option maxHeartbeats 4000000 in
set_option maxRecDepth 100000 in
theorem put_nil (b : Bin) (w : World) :
    Calls Tryz.prog 144 #[.slice none 0 0, .agg #[.int .i64 b.frm, .int .i64 b.sum, .int .i64 b.cnt, .int .i64 b.oth, .int .i64 b.low, .int .i64 b.high]] w
      fun e w' => ∃ A c, e = .returned (.slice A 1 c) ∧ Owns eBin 39 w' w.heap.size A c [b] ∧ Kp Non w w' := by
  go_enter Tryz.func144, Tryz.ntmps144
  go_wp2_with fail
  go_quiet (fail)
  go_wp2_with (at_builtin; refine wp_append1 rfl _ _ 27 39 rfl eBin 48 ety_Bin Tryz.underlying27 w.heap.size none 0 0 [] b _ _ _ rfl rfl rfl ?c0 ?c1 ?c2 (by omega) (by omega) ?c3 ?c4)
  case c0 => simp
  case c1 => rfl
  case c2 => exact Owns.nil _ _ _ _
  case c3 => simp
  case c4 =>
  intro A' c' w5 ho5 hk5 hg5
  have hk05 := Kp.own (((Kp.refl Non w).alloc (.cells #[.int .i64 b.frm, .int .i64 b.sum, .int .i64 b.cnt, .int .i64 b.oth, .int .i64 b.low, .int .i64 b.high] 39)).drewN nq) hk5 (Nat.le_refl _)
  have HO5 := Lib.hid ho5
  clear ho5 hk5 hg5
  go_wp2_with fail
  go_ret
  exact ⟨A', c', rfl, HO5.out, hk05⟩

set_option maxHeartbeats 4000000 in
set_option maxRecDepth 100000 in
theorem bins_one (A : Option Addr) (c : Nat) (w : World) (hr : Rd eSmp w A 1 [⟨5, 3, 0⟩]) :
    Calls Tryz.prog 143 #[.slice A 1 c, .int .i64 10] w
      fun e w' => ∃ A c, e = .returned (.slice A 1 c) ∧ Rd eBin w' A 1 [⟨0, 3, 1, 0, 3, 3⟩] ∧ Kp Non w w' := by
  have HR := Lib.hid hr
  clear hr
  go_enter Tryz.func143, Tryz.ntmps143
  go_wp2_with fail
  go_loopg [5, 11] 1 (fun k s5 s11 wr => ∃ (i : Nat) (A' : Option Addr) (c' : Nat), i + k = 1 ∧ s11 = .int .i64 i ∧ s5 = .slice A' i c' ∧ Kp Non w wr ∧ (i = 0 → A' = none ∧ c' = 0) ∧ (i = 1 → Rd eBin wr A' 1 [⟨0, 3, 1, 0, 3, 3⟩]))
  case atStart => exact ⟨0, none, 0, rfl, rfl, rfl, Kp.refl _ _, (fun _ => ⟨rfl, rfl⟩), (fun h => by cases h)⟩
  case round =>
    obtain ⟨i, A', c', hi, rfl, rfl, hk, h0, h1⟩ := hrel
    by_cases hin : i = 0
    · subst hin
      obtain ⟨rfl, rfl⟩ := h0 rfl
      have hrd := HR.out.kp0 hk
      obtain ⟨g, o, rfl, _⟩ := hrd.at (by omega)
      obtain ⟨c0, c1, c2⟩ := smp_cells hrd 0 (by decide)
      simp only [Nat.zero_mul, Nat.add_zero] at c0 c1 c2
      clear h0 h1 hrd
      go_wp2_with fail
      refine (put_nil ⟨0, 3, 1, 0, 3, 3⟩ _).mono ?_
      rintro e w1 ⟨A1, c1, rfl, hown, hk1⟩
      have hrd1 := hown.rd
      have hkk : Kp Non w w1 := ((hk.alloc _).alloc _).then_ hk1
      have HRD1 := Lib.hid hrd1
      clear hown hrd1
      go_wp2_with fail
      go_roundg 0
      case measure => omega
      case rel => exact ⟨1, A1, c1, rfl, rfl, rfl, hkk, (fun h => by cases h), fun _ => HRD1.out⟩
    · obtain rfl : i = 1 := by omega
      have hrd1 := h1 rfl
      clear h0 h1
      go_wp2_with fail
      go_ret
      exact ⟨A', c', rfl, hrd1, hk⟩

set_option maxHeartbeats 4000000 in
set_option maxRecDepth 100000 in
theorem retBins_one (A : Option Addr) (c : Nat) (w : World) (hr : Rd eSmp w A 1 [⟨5, 3, 0⟩]) :
    Calls Tryz.prog 42 #[.slice A 1 c, .int .i64 10] w
      fun e w' => ∃ A c, e = .returned (.tuple #[.slice A 1 c, .int .i64 0]) ∧ Rd eBin w' A 1 [⟨0, 3, 1, 0, 3, 3⟩] ∧ Kp Non w w' := by
  have CS := Lib.hid (checkSeries_any _ A 1 c w hr)
  have hsf : seriesFault [⟨5, 3, 0⟩] = 0 := by decide
  rw [hsf] at CS
  have IS := fun W => isStep_any 10 W
  have hst : isStepB 10 = true := by decide
  rw [hst] at IS
  have HIS := Lib.hid IS
  have HB := Lib.hid (fun W (k : Kp Non w W) => bins_one A c W (hr.kp0 k))
  clear hr IS hsf hst
  go_enter Tryz.func42, Tryz.ntmps42
  go_wp2_with fail
  refine CS.out.mono ?_
  rintro e w1 ⟨rfl, hk1⟩
  go_wp2_with fail
  refine (HIS.out _).mono ?_
  rintro e w2 ⟨rfl, rfl⟩
  go_wp2_with fail
  refine (HB.out _ hk1).mono ?_
  rintro e w3 ⟨A3, c3, rfl, hrd3, hk3⟩
  have hk03 := hk1.then_ hk3
  have HR3 := Lib.hid hrd3
  clear hrd3
  go_wp2_with fail
  go_ret2
  exact ⟨A3, c3, rfl, HR3.out, hk03⟩

set_option maxHeartbeats 4000000 in
set_option maxRecDepth 100000 in
theorem retained_any (w : World) : Calls Tryz.prog 19 #[] w fun e w' => e = .returned (.bool true) ∧ Kp Non w w' := by
  have hrd : Rd eSmp (w.alloc (.cells #[.int .i64 5, .int .i64 3, .int .i64 0] 53)) (some ⟨w.heap.size, 0, none⟩) 1 [⟨5, 3, 0⟩] :=
    ⟨rfl, reads_new w [.int .i64 5, .int .i64 3, .int .i64 0] 53 1 3 rfl (by decide)⟩
  have HB := Lib.hid (retBins_one _ 1 _ hrd)
  clear hrd
  go_enter Tryz.func19, Tryz.ntmps19
  go_wp2_with fail
  refine HB.out.mono ?_
  rintro e w1 ⟨A, c, rfl, hrd, hk⟩
  have hk0 : Kp Non w w1 := ((Kp.refl _ _).alloc _).then_ hk
  obtain ⟨g, o, rfl, _⟩ := hrd.at (by omega)
  obtain ⟨c0, c1, _⟩ := bin_cells hrd 0 (by decide)
  simp only [Nat.zero_mul, Nat.add_zero] at c0 c1
  clear hrd
  go_wp2_with fail
  go_ret
  exact ⟨rfl, hk0⟩

set_option maxHeartbeats 4000000 in
set_option maxRecDepth 100000 in
theorem equalBins (xs : List Bin) (A B : Option Addr) (n c d : Nat) (w : World) (hA : Rd eBin w A n xs) (hB : Rd eBin w B n xs) :
    Calls Tryz.prog 18 #[.slice A n c, .slice B n d] w fun e w' => e = .returned (.bool true) ∧ Kp Non w w' := by
  have hmx := hA.max
  have HA := Lib.hid hA
  have HB := Lib.hid hB
  clear hA hB
  go_enter Tryz.func18, Tryz.ntmps18
  go_wp2_with fail
  go_loopg [13] n (fun k s13 wr => ∃ i : Nat, i + k = n ∧ s13 = .int .i64 i ∧ Kp Non w wr)
  case atStart => exact ⟨0, by omega, rfl, Kp.refl _ _⟩
  case round =>
    obtain ⟨i, hi, rfl, hk⟩ := hrel
    by_cases hin : i < n
    · have ha := HA.out.kp0 hk
      have hb := HB.out.kp0 hk
      obtain ⟨g, o, rfl, _⟩ := ha.at (by omega)
      obtain ⟨g', o', rfl, _⟩ := hb.at (by omega)
      have hix : i < xs.length := by have := ha.len; omega
      obtain ⟨a0, a1, a2, a3, a4, a5⟩ := bin_cells ha i hix
      obtain ⟨b0, b1, b2, b3, b4, b5⟩ := bin_cells hb i hix
      generalize xs[i]'hix = x at *
      obtain ⟨f, s, c', o2, lo, hg⟩ := x
      dsimp only at a0 a1 a2 a3 a4 a5 b0 b1 b2 b3 b4 b5
      clear ha hb
      go_wp2_with fail
      go_quiet (fail)
      go_wp2_with fail
      go_roundg (gk - 1)
      case measure => omega
      case rel => exact ⟨i + 1, by omega, by go_num, hk.drewN _⟩
    · obtain rfl : i = n := by omega
      go_wp2_with fail
      go_ret
      exact ⟨rfl, hk⟩
end Go.Proofs.YtcldaldfonfbgaaGreatDoor
