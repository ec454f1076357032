/- Bins: their faults. -/
import Derived.Test.YtcldaldfonfbgaaGreatDoorProg
import Derived.Test.YtcldaldfonfbgaaGreatDoorA4
import Derived.Deep.QuietTactic
import Derived.BigQuiet
import Derived.Deep.LoopGhost
import Derived.WalkLawsBesides
import Derived.WalkSpells
import Derived.Outline
set_option linter.unusedVariables false
set_option linter.unusedSimpArgs false
namespace Go.Proofs.YtcldaldfonfbgaaGreatDoor
open Go.RowKit

structure Bin where
  frm : Int
  sum : Int
  cnt : Int
  oth : Int
  low : Int
  high : Int
  deriving DecidableEq
def eBin : Enc Bin := ⟨6, fun x => [.int .i64 x.frm, .int .i64 x.sum, .int .i64 x.cnt, .int .i64 x.oth, .int .i64 x.low, .int .i64 x.high], fun _ => rfl, fun _ u h => by simp at h; rcases h with rfl | rfl | rfl | rfl | rfl | rfl <;> rfl, by decide⟩
def Bin.ok (x : Bin) : Prop := i64ok x.frm ∧ i64ok x.sum ∧ i64ok x.cnt ∧ i64ok x.oth ∧ i64ok x.low ∧ i64ok x.high

def outB (n low high : Int) : Bool := decide (n < low) || decide (high < n)
theorem out_any (n low high : Int) (w : World) : Calls Tryz.prog 161 #[.int .i64 n, .int .i64 low, .int .i64 high] w fun e w' => e = .returned (.bool (outB n low high)) ∧ w = w' := by
  unfold outB
  by_cases h : n < low
  all_goals
    go_enter Tryz.func161, Tryz.ntmps161
    go_wp2
    go_ret
    exact ⟨ret_bool (by rw [Bool.eq_iff_iff]; simp; omega), rfl⟩
theorem in_any (n low high : Int) (w : World) : Calls Tryz.prog 118 #[.int .i64 n, .int .i64 low, .int .i64 high] w fun e w' => e = .returned (.bool (!outB n low high)) ∧ w = w' := by
  unfold outB
  by_cases h : n < low
  all_goals
    go_enter Tryz.func118, Tryz.ntmps118
    go_wp2
    go_ret
    exact ⟨ret_bool (by rw [Bool.eq_iff_iff]; try (simp; try omega)), rfl⟩

def isStepB (n : Int) : Bool := !outB n 1 86400000 && (86400000 % n == 0)
def momentB (n : Int) : Bool := !outB n 0 345686399999
theorem moment_any (n : Int) (w : World) : Calls Tryz.prog 151 #[.int .i64 n] w fun e w' => e = .returned (.bool (momentB n)) ∧ w = w' := by
  unfold momentB
  have H := Lib.hid (out_any n 0 345686399999)
  generalize outB n 0 345686399999 = x at *
  go_enter Tryz.func151, Tryz.ntmps151
  go_wp2_with (go_at_call 161; refine (H.out _).mono ?_; rintro e w' ⟨rfl, rfl⟩)
  go_ret
  exact ⟨rfl, rfl⟩
theorem qmoment_any (n : Int) (w : World) : Calls Tryz.prog 117 #[.int .i64 n] w fun e w' => e = .returned (.bool (momentB n)) ∧ w = w' := by
  unfold momentB
  have H := Lib.hid (in_any n 0 345686399999)
  generalize outB n 0 345686399999 = x at *
  go_enter Tryz.func117, Tryz.ntmps117
  go_wp2_with (go_at_call 118; refine (H.out _).mono ?_; rintro e w' ⟨rfl, rfl⟩)
  go_ret
  exact ⟨rfl, rfl⟩
theorem isStep_any (n : Int) (w : World) : Calls Tryz.prog 99 #[.int .i64 n] w fun e w' => e = .returned (.bool (isStepB n)) ∧ w = w' := by
  unfold isStepB
  have H := Lib.hid (out_any n 1 86400000)
  by_cases h : 1 ≤ n
  · generalize outB n 1 86400000 = x at *
    cases x
    all_goals
      go_enter Tryz.func99, Tryz.ntmps99
      go_wp2_with (go_at_call 161; refine (H.out _).mono ?_; rintro e w' ⟨rfl, rfl⟩)
      go_ret
      exact ⟨by simp, rfl⟩
  · have hx : outB n 1 86400000 = true := by unfold outB; simp; omega
    rw [hx] at H ⊢
    clear hx
    go_enter Tryz.func99, Tryz.ntmps99
    go_wp2_with (go_at_call 161; refine (H.out _).mono ?_; rintro e w' ⟨rfl, rfl⟩)
    go_ret
    exact ⟨by simp, rfl⟩
theorem step_any (n : Int) (w : World) : Calls Tryz.prog 205 #[.int .i64 n] w fun e w' => e = .returned (.bool (isStepB n)) ∧ w = w' := by
  unfold isStepB
  have H := Lib.hid (in_any n 1 86400000)
  by_cases h : 1 ≤ n
  · generalize outB n 1 86400000 = x at *
    cases x
    all_goals
      go_enter Tryz.func205, Tryz.ntmps205
      go_wp2_with (go_at_call 118; refine (H.out _).mono ?_; rintro e w' ⟨rfl, rfl⟩)
      go_ret
      exact ⟨by simp, rfl⟩
  · have hx : outB n 1 86400000 = true := by unfold outB; simp; omega
    rw [hx] at H ⊢
    clear hx
    go_enter Tryz.func205, Tryz.ntmps205
    go_wp2_with (go_at_call 118; refine (H.out _).mono ?_; rintro e w' ⟨rfl, rfl⟩)
    go_ret
    exact ⟨by simp, rfl⟩
theorem stepFault_any (n : Int) (w : World) : Calls Tryz.prog 85 #[.int .i64 n] w fun e w' => e = .returned (.int .i64 (if isStepB n = true then 0 else 1)) ∧ w = w' := by
  have H := Lib.hid (step_any n)
  generalize isStepB n = x at *
  cases x
  all_goals
    go_enter Tryz.func85, Tryz.ntmps85
    go_wp2_with (go_at_call 205; refine (H.out _).mono ?_; rintro e w' ⟨rfl, rfl⟩)
    go_ret
    exact ⟨by simp, rfl⟩

/-- The fault of a bin by itself, test by test. -/
def binFault (x : Bin) (step : Int) : Int :=
  if momentB x.frm = false then 1 else if (x.frm % step != 0) = true then 1 else if outB x.cnt 0 5000000 = true then 1 else if outB x.oth 0 5000000 = true then 1
  else if (x.cnt == 0) = true then
    (if (x.oth == 0) = true then 8 else if outB x.low (-1000000) 1000000 = true then 1 else if outB x.high (-1000000) 1000000 = true then 1
     else if (x.sum != 0) = true then 3 else if (x.low != 0) = true then 3 else if (x.high != 0) = true then 3 else 0)
  else if outB x.low (-1000000) 1000000 = true then 1 else if outB x.high (-1000000) 1000000 = true then 1
  else if outB x.sum (x.cnt * x.low) (x.cnt * x.high) = true then 3 else 0

theorem outB_false {n low high : Int} (h : outB n low high = false) : low ≤ n ∧ n ≤ high := by unfold outB at h; simp at h; exact h
theorem momentB_true {n : Int} (h : momentB n = true) : 0 ≤ n ∧ n ≤ 345686399999 := by unfold momentB at h; exact outB_false (by simpa using h)
theorem zero_out {s c lo hi : Int} (hc : (c == 0) = true) (hs : (s != 0) = false) : outB s (c * lo) (c * hi) = false := by
  obtain rfl : c = 0 := by simpa using hc
  obtain rfl : s = 0 := by simpa using hs
  simp [outB]
theorem cnt_true {c o : Int} (hc : (c == 0) = true) (ho : (o == 0) = true) : (c + o == 0) = true := by
  rw [beq_iff_eq] at *; omega
theorem cnt_false1 {c o : Int} (hc : (c == 0) = false) (h1 : 0 ≤ c) (h2 : 0 ≤ o) : (c + o == 0) = false := by
  rw [beq_eq_false_iff_ne] at *; omega
theorem cnt_false2 {c o : Int} (ho : (o == 0) = false) (h1 : 0 ≤ c) (h2 : 0 ≤ o) : (c + o == 0) = false := by
  rw [beq_eq_false_iff_ne] at *; omega
theorem cnt_zero {c : Int} (hc : (c == 0) = true) : decide (0 < c) = false := by
  rw [beq_iff_eq] at *; simp; omega
theorem cnt_pos {c : Int} (hc : (c == 0) = false) (h1 : 0 ≤ c) : decide (0 < c) = true := by
  rw [beq_eq_false_iff_ne] at *; simp; omega
theorem prod_bd {a b : Int} (h0 : 0 ≤ a) (h1 : a ≤ 5000000) (h2 : -1000000 ≤ b) (h3 : b ≤ 1000000) : -5000000000000 ≤ a * b ∧ a * b ≤ 5000000000000 := by
  constructor
  · have : a * (-1000000) ≤ a * b := Int.mul_le_mul_of_nonneg_left h2 h0
    omega
  · have : a * b ≤ a * 1000000 := Int.mul_le_mul_of_nonneg_left h3 h0
    omega

theorem prod_bd' {a b : Int} (h : outB a 0 5000000 = false) (h' : outB b (-1000000) 1000000 = false) : -5000000000000 ≤ a * b ∧ a * b ≤ 5000000000000 :=
  prod_bd (outB_false h).1 (outB_false h).2 (outB_false h').1 (outB_false h').2

set_option maxHeartbeats 4000000 in
theorem rt_binFault_any (x : Bin) (step : Int) (w : World) (hs : 1 ≤ step) (hs' : step ≤ 86400000) :
    Calls Tryz.prog 209 #[.agg #[.int .i64 x.frm, .int .i64 x.sum, .int .i64 x.cnt, .int .i64 x.oth, .int .i64 x.low, .int .i64 x.high], .int .i64 step] w
      fun e w' => e = .returned (.int .i64 (binFault x step)) ∧ Kp Non w w' := by
  obtain ⟨f, s, c, o, lo, hi⟩ := x
  simp only [binFault]
  by_cases a1 : momentB f = false
  · simp only [a1, reduceIte]
    go_enter Tryz.func209, Tryz.ntmps209
    go_wp2_with (first | (go_at_call 151; refine (moment_any _ _).mono ?_; rintro e w' ⟨rfl, rfl⟩) | (go_at_call 161; refine (out_any _ _ _ _).mono ?_; rintro e w' ⟨rfl, rfl⟩))
    go_ret
    exact ⟨rfl, by repeat (first | exact Kp.refl _ _ | apply Kp.alloc)⟩
  · simp only [Bool.not_eq_false] at a1
    obtain ⟨f0, f1⟩ := momentB_true a1
    simp only [a1, reduceIte, Bool.true_eq_false]
    refine if a2 : (f % step != 0) = true then ?_ else if a3 : outB c 0 5000000 = true then ?_ else if a4 : outB o 0 5000000 = true then ?_ else ?_
    case refine_4 =>
      simp only [Bool.not_eq_true] at a2 a3 a4
      simp only [a2, a3, a4, reduceIte, Bool.false_eq_true]
      refine if a5 : (c == 0) = true then (if a6 : (o == 0) = true then ?_ else if a7 : outB lo (-1000000) 1000000 = true then ?_ else if a8 : outB hi (-1000000) 1000000 = true then ?_
        else if a9 : (s != 0) = true then ?_ else if a10 : (lo != 0) = true then ?_ else if a11 : (hi != 0) = true then ?_ else ?_)
        else if a7 : outB lo (-1000000) 1000000 = true then ?_ else if a8 : outB hi (-1000000) 1000000 = true then ?_ else if a9 : outB s (c * lo) (c * hi) = true then ?_ else ?_
      all_goals
        try simp only [Bool.not_eq_true] at *
        simp only [*, reduceIte, Bool.false_eq_true]
        try have p1 := prod_bd' (a := c) (b := lo) (by assumption) (by assumption)
        try have p2 := prod_bd' (a := c) (b := hi) (by assumption) (by assumption)
        try have a12 := zero_out (s := s) (c := c) (lo := lo) (hi := hi) (by assumption) (by assumption)
        go_enter Tryz.func209, Tryz.ntmps209
        go_wp2_with (first | (go_at_call 151; refine (moment_any _ _).mono ?_; rintro e w' ⟨rfl, rfl⟩) | (go_at_call 161; refine (out_any _ _ _ _).mono ?_; rintro e w' ⟨rfl, rfl⟩))
        go_ret
        exact ⟨rfl, by repeat (first | exact Kp.refl _ _ | apply Kp.alloc)⟩
    all_goals
      try simp only [Bool.not_eq_true] at *
      simp only [*, reduceIte, Bool.false_eq_true]
      go_enter Tryz.func209, Tryz.ntmps209
      go_wp2_with (first | (go_at_call 151; refine (moment_any _ _).mono ?_; rintro e w' ⟨rfl, rfl⟩) | (go_at_call 161; refine (out_any _ _ _ _).mono ?_; rintro e w' ⟨rfl, rfl⟩))
      go_ret
      exact ⟨rfl, by repeat (first | exact Kp.refl _ _ | apply Kp.alloc)⟩
set_option maxHeartbeats 4000000 in
theorem q_binFault_any (x : Bin) (step : Int) (w : World) (hs : 1 ≤ step) (hs' : step ≤ 86400000) :
    Calls Tryz.prog 97 #[.agg #[.int .i64 x.frm, .int .i64 x.sum, .int .i64 x.cnt, .int .i64 x.oth, .int .i64 x.low, .int .i64 x.high], .int .i64 step] w
      fun e w' => e = .returned (.int .i64 (binFault x step)) ∧ Kp Non w w' := by
  obtain ⟨f, s, c, o, lo, hi⟩ := x
  simp only [binFault]
  by_cases a1 : momentB f = false
  · simp only [a1, reduceIte]
    go_enter Tryz.func97, Tryz.ntmps97
    go_wp2_with (first | (go_at_call 117; refine (qmoment_any _ _).mono ?_; rintro e w' ⟨rfl, rfl⟩) | (go_at_call 118; refine (in_any _ _ _ _).mono ?_; rintro e w' ⟨rfl, rfl⟩))
    go_ret
    exact ⟨rfl, by repeat (first | exact Kp.refl _ _ | apply Kp.alloc)⟩
  · simp only [Bool.not_eq_false] at a1
    obtain ⟨f0, f1⟩ := momentB_true a1
    simp only [a1, reduceIte, Bool.true_eq_false]
    refine if a2 : (f % step != 0) = true then ?_ else if a3 : outB c 0 5000000 = true then ?_ else if a4 : outB o 0 5000000 = true then ?_ else ?_
    case refine_4 =>
      simp only [Bool.not_eq_true] at a2 a3 a4
      simp only [a2, a3, a4, reduceIte, Bool.false_eq_true]
      refine if a5 : (c == 0) = true then (if a6 : (o == 0) = true then ?_ else if a7 : outB lo (-1000000) 1000000 = true then ?_ else if a8 : outB hi (-1000000) 1000000 = true then ?_
        else if a9 : (s != 0) = true then ?_ else if a10 : (lo != 0) = true then ?_ else if a11 : (hi != 0) = true then ?_ else ?_)
        else if a7 : outB lo (-1000000) 1000000 = true then ?_ else if a8 : outB hi (-1000000) 1000000 = true then ?_ else if a9 : outB s (c * lo) (c * hi) = true then ?_ else ?_
      all_goals
        try simp only [Bool.not_eq_true] at *
        simp only [*, reduceIte, Bool.false_eq_true]
        try have p1 := prod_bd' (a := c) (b := lo) (by assumption) (by assumption)
        try have p2 := prod_bd' (a := c) (b := hi) (by assumption) (by assumption)
        have b3 := outB_false a3
        have b4 := outB_false a4
        try have a13 := cnt_true (c := c) (o := o) (by assumption) (by assumption)
        try have a13 := cnt_false1 (c := c) (o := o) (by assumption) b3.1 b4.1
        try have a13 := cnt_false2 (c := c) (o := o) (by assumption) b3.1 b4.1
        try have a14 := cnt_zero (c := c) (by assumption)
        try have a14 := cnt_pos (c := c) (by assumption) b3.1
        try have a12 := zero_out (s := s) (c := c) (lo := lo) (hi := hi) (by assumption) (by assumption)
        go_enter Tryz.func97, Tryz.ntmps97
        go_wp2_with (first | (go_at_call 117; refine (qmoment_any _ _).mono ?_; rintro e w' ⟨rfl, rfl⟩) | (go_at_call 118; refine (in_any _ _ _ _).mono ?_; rintro e w' ⟨rfl, rfl⟩))
        go_ret
        exact ⟨rfl, by repeat (first | exact Kp.refl _ _ | apply Kp.alloc)⟩
    all_goals
      try simp only [Bool.not_eq_true] at *
      simp only [*, reduceIte, Bool.false_eq_true]
      go_enter Tryz.func97, Tryz.ntmps97
      go_wp2_with (first | (go_at_call 117; refine (qmoment_any _ _).mono ?_; rintro e w' ⟨rfl, rfl⟩) | (go_at_call 118; refine (in_any _ _ _ _).mono ?_; rintro e w' ⟨rfl, rfl⟩))
      go_ret
      exact ⟨rfl, by repeat (first | exact Kp.refl _ _ | apply Kp.alloc)⟩
end Go.Proofs.YtcldaldfonfbgaaGreatDoor
