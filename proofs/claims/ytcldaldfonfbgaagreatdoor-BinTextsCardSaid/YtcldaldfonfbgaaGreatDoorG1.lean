/- The law BinTexts, walked. -/
import Derived.Test.YtcldaldfonfbgaaGreatDoorF5
import Derived.Test.YtcldaldfonfbgaaGreatDoorD2
set_option linter.unusedVariables false
set_option linter.unusedSimpArgs false
namespace Go.Proofs.YtcldaldfonfbgaaGreatDoor
open Go.RowKit

theorem Strm.fresh {w : World} {A : Option Addr} {n c : Nat} {l : List Int} (hr : Rd eInt w A n l) (hA : ∀ a, A = some a → a.block < w.heap.size) (hl : l.length ≤ 17592186044416) (hx : ∀ x ∈ l, i64ok x) :
    Strm (w.alloc (.cells #[.slice A n c, .int .i64 0] 25)) w.heap.size l 0 := by
  have hn := hr.len
  subst hn
  refine ⟨⟨A, c, blk_new w _ _, ?_, hA⟩, hl, hx⟩
  have h2 : Reads w A l.length 1 (l.map (.int .i64)) := by
    have := hr.2
    have e : l.flatMap eInt.enc = l.map (Value.int .i64) := by
      clear hr hA hl hx this
      induction l with
      | nil => rfl
      | cons x r ih => simp [eInt] at ih ⊢; exact ih
    rw [e] at this
    exact this
  exact h2.kp ((Kp.refl Non w).alloc _) (fun _ _ => id)

set_option maxHeartbeats 8000000 in
set_option maxRecDepth 100000 in
theorem law_any (A : Option Addr) (n c : Nat) (l : List Int) (w : World) (he : Env w) (hr : Rd eInt w A n l) (hA : ∀ a, A = some a → a.block < w.heap.size) (hl : l.length ≤ 17592186044416) (hx : ∀ x ∈ l, i64ok x) :
    Calls Tryz.prog 3 #[.slice A n c] w fun e w' => e = .returned (.bool true) ∧ Kp Non w w' := by
  have hs0 := Strm.fresh (c := c) hr hA hl hx
  have AS := Lib.hid (astep_any w.heap.size l 0 _ hs0 (by omega))
  have he0 := he.alloc (.cells #[.slice A n c, .int .i64 0] 25)
  have hlow := he.low
  have hk0 : Kp Non w (w.alloc (.cells #[.slice A n c, .int .i64 0] 25)) := (Kp.refl _ _).alloc _
  have HSB := Lib.hid (show ∀ i, Sole w.heap.size i → gl ≤ i by rintro i rfl; exact hlow)
  have HE0 := Lib.hid he0
  have HK0 := Lib.hid hk0
  generalize picked l 0 steps_ = step at *
  clear hr hA he hs0 he0 hk0
  go_enter Tryz.func3, Tryz.ntmps3
  go_wp2_with fail
  refine AS.out.mono ?_
  rintro e w1 ⟨rfl, hs1, hk1⟩
  have HK1 := Lib.hid hk1
  have he1 := HE0.out.kp hk1 HSB.out
  have hs1l := hs1.lt
  clear hk1
  go_wp2_with fail
  refine (binList_any step w.heap.size l (0 + 1) w1 hs1 (by omega)).mono ?_
  rintro e w2 ⟨⟨A2, c2, ys, rfl, hrd2, h8, hok, hA2⟩, ⟨k2, hk2l, hs2⟩, hk2⟩
  have HK2 := Lib.hid (HK1.out.then_ hk2)
  have he2 := he1.kp hk2 HSB.out
  have HRD2 := Lib.hid hrd2
  have HOK := Lib.hid hok
  clear hk2 hrd2 hok hs1 he1
  go_wp2_with fail
  refine (binText_any step w.heap.size l k2 w2 hs2 he2 hlow (by omega)).mono ?_
  rintro e w3 ⟨⟨t, rfl, hts⟩, ⟨k3, hk3l, hs3⟩, hk3⟩
  have HK3 := Lib.hid (HK2.out.then_ hk3)
  have he3 := he2.kp hk3 HSB.out
  have hne : ∀ a, A2 = some a → ¬ Sole w.heap.size a.block := by
    intro a ha hs
    have h1 := hA2 a ha
    have h2 : a.block = w.heap.size := hs
    have h3 := hs1l
    omega
  have HRD3 := Lib.hid (HRD2.out.kp hk3 hne)
  clear hk3 hs2 he2 hne hs3
  have RT := Lib.hid (rtText_any A2 ys.length c2 ys step w3 HRD3.out he3 (by omega) HOK.out)
  have HE3 := Lib.hid he3
  obtain ⟨f, hf⟩ : ∃ f, f = binsFault ys step := ⟨_, rfl⟩
  rw [← hf] at RT
  have HF := Lib.hid hf
  clear he3 hf
  by_cases hf0 : f = 0
  · subst hf0
    rw [if_neg (by simp)] at RT
    go_wp2_with fail
    refine RT.out.mono ?_
    rintro e w4 ⟨rfl, hk4⟩
    have HK4 := Lib.hid (HK3.out.then0 hk4)
    have HE4 := Lib.hid (HE3.out.kp0 hk4)
    have HRD4 := Lib.hid (HRD3.out.kp0 hk4)
    clear hk4
    go_wp2_with fail
    refine (qbinsFault_any ys A2 ys.length c2 step w4 HRD4.out).mono ?_
    rintro e w5 ⟨rfl, hk5⟩
    rw [← HF.out]
    have HK5 := Lib.hid (HK4.out.then0 hk5)
    have HE5 := Lib.hid (HE4.out.kp0 hk5)
    have HRD5 := Lib.hid (HRD4.out.kp0 hk5)
    clear hk5
    go_wp2_with fail
    refine (binLines_any A2 ys.length c2 ys w5 HRD5.out HE5.out (by omega) HOK.out).mono ?_
    rintro e w6 ⟨rfl, hk6⟩
    have HK6 := Lib.hid (HK5.out.then0 hk6)
    have HE6 := Lib.hid (HE5.out.kp0 hk6)
    clear hk6
    go_wp2_with fail
    refine (rtRead_any step t w6 HE6.out).mono ?_
    rintro e w7 ⟨⟨A7, c7, rfl, hrd7⟩, hk7⟩
    have HK7 := Lib.hid (HK6.out.then0 hk7)
    have HE7 := Lib.hid (HE6.out.kp0 hk7)
    have HRD7 := Lib.hid hrd7
    clear hk7 hrd7
    go_wp2_with fail
    refine (qBinsRead_any step t w7 HE7.out).mono ?_
    rintro e w8 ⟨⟨A8, c8, rfl, hrd8⟩, hk8⟩
    have HK8 := Lib.hid (HK7.out.then0 hk8)
    have HRD8 := Lib.hid hrd8
    have HRD78 := Lib.hid (HRD7.out.kp0 hk8)
    clear hk8 hrd8
    go_wp2_with fail
    refine (equalBins _ A7 A8 _ c7 c8 w8 HRD78.out HRD8.out).mono ?_
    rintro e w9 ⟨rfl, hk9⟩
    have HK9 := Lib.hid (HK8.out.then0 hk9)
    clear hk9
    go_wp2_with fail
    refine (retained_any w9).mono ?_
    rintro e wz ⟨rfl, hkz⟩
    have HKZ := HK9.out.then0 hkz
    have hfin : Kp Non w wz := HK0.out.trans HKZ fun i (hi : i = w.heap.size) => .inr (by omega)
    clear HKZ hkz
    go_wp2_with fail
    go_ret
    exact ⟨rfl, hfin⟩
  · have hfb : (f != 0) = true := by simpa using hf0
    have hfe : (f == 0) = false := by simpa using hf0
    rw [if_pos hfb] at RT
    go_wp2_with fail
    refine RT.out.mono ?_
    rintro e w4 ⟨rfl, hk4⟩
    have HK4 := Lib.hid (HK3.out.then0 hk4)
    have HE4 := Lib.hid (HE3.out.kp0 hk4)
    have HRD4 := Lib.hid (HRD3.out.kp0 hk4)
    clear hk4
    go_wp2_with fail
    refine (qbinsFault_any ys A2 ys.length c2 step w4 HRD4.out).mono ?_
    rintro e w5 ⟨rfl, hk5⟩
    rw [← HF.out]
    have HK5 := Lib.hid (HK4.out.then0 hk5)
    have HE5 := Lib.hid (HE4.out.kp0 hk5)
    have HRD5 := Lib.hid (HRD4.out.kp0 hk5)
    clear hk5
    go_wp2_with fail
    refine (rtRead_any step t w5 HE5.out).mono ?_
    rintro e w7 ⟨⟨A7, c7, rfl, hrd7⟩, hk7⟩
    have HK7 := Lib.hid (HK5.out.then0 hk7)
    have HE7 := Lib.hid (HE5.out.kp0 hk7)
    have HRD7 := Lib.hid hrd7
    clear hk7 hrd7
    go_wp2_with fail
    refine (qBinsRead_any step t w7 HE7.out).mono ?_
    rintro e w8 ⟨⟨A8, c8, rfl, hrd8⟩, hk8⟩
    have HK8 := Lib.hid (HK7.out.then0 hk8)
    have HRD8 := Lib.hid hrd8
    have HRD78 := Lib.hid (HRD7.out.kp0 hk8)
    clear hk8 hrd8
    go_wp2_with fail
    refine (equalBins _ A7 A8 _ c7 c8 w8 HRD78.out HRD8.out).mono ?_
    rintro e w9 ⟨rfl, hk9⟩
    have HK9 := Lib.hid (HK8.out.then0 hk9)
    clear hk9
    go_wp2_with fail
    refine (retained_any w9).mono ?_
    rintro e wz ⟨rfl, hkz⟩
    have HKZ := HK9.out.then0 hkz
    have hfin : Kp Non w wz := HK0.out.trans HKZ fun i (hi : i = w.heap.size) => .inr (by omega)
    clear HKZ hkz
    go_wp2_with fail
    go_ret
    exact ⟨rfl, hfin⟩
end Go.Proofs.YtcldaldfonfbgaaGreatDoor
