/- retain.Read and the reference's BinsRead. -/
import Derived.Test.YtcldaldfonfbgaaGreatDoorE7
set_option linter.unusedVariables false
set_option linter.unusedSimpArgs false
namespace Go.Proofs.YtcldaldfonfbgaaGreatDoor
open Go.RowKit

theorem BinI.here {p i : Nat} {s : List Bin} {w : World} (h : BinI p i s w) : p < w.heap.size := by
  obtain ⟨A, c, hb, _⟩ := h.row; exact blk_lt hb
theorem takerB (p : Nat) (hp : gl ≤ p) : Taker 101 p 39 200001 stBin (BinI p) where
  call i s l w hI hi hl := read1_any p i s l w hI hi hl hp
  kp i s w w' h k := h.kp0 k
  env i s w h := h.env
  low := hp
  here i s w h := h.here
  enters := enters_of Tryz.func101 (by kernel_rfl) rfl
theorem takerQ (p : Nat) (hp : gl ≤ p) : Taker 105 p 39 200001 stBin (BinI p) where
  call i s l w hI hi hl := qread1_any p i s l w hI hi hl hp
  kp i s w w' h k := h.kp0 k
  env i s w h := h.env
  low := hp
  here i s w h := h.here
  enters := enters_of Tryz.func105 (by kernel_rfl) rfl
theorem BinI.fresh (w : World) (he : Env w) : BinI w.heap.size 0 [] (w.alloc (.cells #[.slice none 0 0] 27)) :=
  ⟨he.alloc _, Nat.le_refl _, none, 0, blk_new w _ _, Owns.nil _ _ _ _⟩

def readRes (t : ByteArray) : Nat × Bool × List Bin := readGo stBin [] (linesOf t.data.toList).1 (linesOf t.data.toList).2 0
def readBins (step : Int) (t : ByteArray) : List Bin × Int × Int :=
  if isStepB step = false then ([], 0, 1) else if 200000 < t.size then ([], 0, 2) else
  if (readRes t).2.1 = false then ([], (readRes t).1, 9) else if (binsFault (readRes t).2.2 step != 0) = true then ([], 0, binsFault (readRes t).2.2 step) else ((readRes t).2.2, 0, 0)

def ReadP (R : List Bin × Int × Int) (e : Ending) (w : World) : Prop := ∃ A c, e = .returned (.tuple #[.slice A R.1.length c, .int .i64 R.2.1, .int .i64 R.2.2]) ∧ Rd eBin w A R.1.length R.1
theorem readP_nil (i f : Int) (w : World) : ReadP ([], i, f) (.returned (.tuple #[.slice none 0 0, .int .i64 i, .int .i64 f])) w := ⟨none, 0, rfl, Rd.nil _ _ _⟩

set_option maxHeartbeats 4000000 in
set_option maxRecDepth 100000 in
theorem rtRead_any (step : Int) (t : ByteArray) (w : World) (he : Env w) :
    Calls Tryz.prog 16 #[.int .i64 step, .string t] w fun e w' => ReadP (readBins step t) e w' ∧ Kp Non w w' := by
  obtain ⟨R, hR⟩ : ∃ R, R = readBins step t := ⟨_, rfl⟩
  rw [← hR]
  have H := Lib.hid (isStep_any step)
  unfold readBins at hR
  cases hst : isStepB step
  · rw [hst] at H hR
    rw [if_pos rfl] at hR
    subst hR
    go_enter Tryz.func16, Tryz.ntmps16
    go_wp2_with fail
    refine (H.out _).mono ?_
    rintro e w1 ⟨rfl, rfl⟩
    go_wp2_with fail
    go_ret3
    exact ⟨readP_nil _ _ _, Kp.refl _ _⟩
  · rw [hst] at H hR
    rw [if_neg (by simp)] at hR
    by_cases hsz : 200000 < t.size
    · rw [if_pos hsz] at hR
      subst hR
      go_enter Tryz.func16, Tryz.ntmps16
      go_wp2_with fail
      refine (H.out _).mono ?_
      rintro e w1 ⟨rfl, rfl⟩
      go_wp2_with fail
      go_ret3
      exact ⟨readP_nil _ _ _, Kp.refl _ _⟩
    · rw [if_neg hsz] at hR
      have EA := Lib.hid (each_any (takerB w.heap.size he.low) (by decide) (by omega) t [] _ (BinI.fresh w he) (by omega))
      obtain ⟨rr, hrr⟩ : ∃ rr, rr = readRes t := ⟨_, rfl⟩
      have hrr2 : readGo stBin [] (linesOf t.data.toList).1 (linesOf t.data.toList).2 0 = rr := by rw [hrr]; rfl
      rw [hrr2] at EA
      rw [← hrr] at hR
      have HR := Lib.hid hR
      clear hR hrr hrr2
      have hmf : ∀ (fn : Fn) (first cap : Array Value) (w : World), (Instr.makeFunc fn first cap).run Tryz.prog w = .ok (.func fn first cap) w := fun _ _ _ _ => rfl
      obtain ⟨ri, rb, rs⟩ := rr
      go_enter Tryz.func16, Tryz.ntmps16
      go_wp2_with fail
      refine (H.out _).mono ?_
      rintro e w1 ⟨rfl, rfl⟩
      go_wp2_with fail
      refine EA.out.mono ?_
      rintro e w2 ⟨rfl, ⟨i, hI, hi⟩, hko⟩
      have hk := hko.kp0
      try dsimp only at hI
      cases rb
      · have hR := HR.out
        rw [if_pos rfl] at hR
        subst hR
        go_wp2_with fail
        go_ret3
        exact ⟨readP_nil _ _ _, hk⟩
      · have hR := HR.out
        rw [if_neg (by simp)] at hR
        obtain ⟨A, c, hb, hown⟩ := hI.row
        have hc := blk_cell hb 0 rfl
        have hrd := hown.rd
        have CB := Lib.hid (checkBins_any rs A rs.length c step w2 hrd)
        have HRD := Lib.hid hrd
        have HB := Lib.hid hb
        generalize binsFault rs step = f at *
        clear hb hown hrd
        by_cases hf : (f != 0) = true
        · rw [if_pos hf] at hR
          subst hR
          go_wp2_with fail
          refine CB.out.mono ?_
          rintro e w3 ⟨rfl, hk3⟩
          have hk03 := hk.then_ hk3
          go_wp2_with fail
          go_ret3
          exact ⟨readP_nil _ _ _, hk03⟩
        · rw [if_neg hf] at hR
          subst hR
          obtain rfl : f = 0 := by simpa using hf
          go_wp2_with fail
          refine CB.out.mono ?_
          rintro e w3 ⟨rfl, hk3⟩
          have hk03 := hk.then_ hk3
          have hc3 := blk_cell (hk3.obj (non_not _) HB.out) 0 rfl
          have hr3 := HRD.out.kp0 hk3
          go_wp2_with fail
          go_ret3
          exact ⟨⟨A, c, rfl, hr3⟩, hk03⟩
set_option maxHeartbeats 4000000 in
set_option maxRecDepth 100000 in
theorem qBinsRead_any (step : Int) (t : ByteArray) (w : World) (he : Env w) :
    Calls Tryz.prog 17 #[.int .i64 step, .string t] w fun e w' => ReadP (readBins step t) e w' ∧ Kp Non w w' := by
  obtain ⟨R, hR⟩ : ∃ R, R = readBins step t := ⟨_, rfl⟩
  rw [← hR]
  have H := Lib.hid (stepFault_any step)
  unfold readBins at hR
  cases hst : isStepB step
  · rw [hst] at H hR
    rw [if_neg (by simp)] at H
    rw [if_pos rfl] at hR
    subst hR
    go_enter Tryz.func17, Tryz.ntmps17
    go_wp2_with fail
    refine (H.out _).mono ?_
    rintro e w1 ⟨rfl, rfl⟩
    go_wp2_with fail
    go_ret3
    exact ⟨readP_nil _ _ _, Kp.refl _ _⟩
  · rw [hst] at H hR
    rw [if_pos rfl] at H
    rw [if_neg (by simp)] at hR
    by_cases hsz : 200000 < t.size
    · rw [if_pos hsz] at hR
      subst hR
      go_enter Tryz.func17, Tryz.ntmps17
      go_wp2_with fail
      refine (H.out _).mono ?_
      rintro e w1 ⟨rfl, rfl⟩
      go_wp2_with fail
      go_ret3
      exact ⟨readP_nil _ _ _, Kp.refl _ _⟩
    · rw [if_neg hsz] at hR
      have EA := Lib.hid (qlines_any (takerQ w.heap.size he.low) (by omega) t [] _ (BinI.fresh w he) (by omega))
      obtain ⟨rr, hrr⟩ : ∃ rr, rr = readRes t := ⟨_, rfl⟩
      have hrr2 : readGo stBin [] (linesOf t.data.toList).1 (linesOf t.data.toList).2 0 = rr := by rw [hrr]; rfl
      rw [hrr2] at EA
      rw [← hrr] at hR
      have HR := Lib.hid hR
      clear hR hrr hrr2
      have hmf : ∀ (fn : Fn) (first cap : Array Value) (w : World), (Instr.makeFunc fn first cap).run Tryz.prog w = .ok (.func fn first cap) w := fun _ _ _ _ => rfl
      obtain ⟨ri, rb, rs⟩ := rr
      go_enter Tryz.func17, Tryz.ntmps17
      go_wp2_with fail
      refine (H.out _).mono ?_
      rintro e w1 ⟨rfl, rfl⟩
      go_wp2_with fail
      refine EA.out.mono ?_
      rintro e w2 ⟨rfl, ⟨i, hI, hi⟩, hko⟩
      have hk := hko.kp0
      try dsimp only at hI
      cases rb
      · have hR := HR.out
        rw [if_pos rfl] at hR
        subst hR
        go_wp2_with fail
        go_ret3
        exact ⟨readP_nil _ _ _, hk⟩
      · have hR := HR.out
        rw [if_neg (by simp)] at hR
        obtain ⟨A, c, hb, hown⟩ := hI.row
        have hc := blk_cell hb 0 rfl
        have hrd := hown.rd
        have CB := Lib.hid (qbinsFault_any rs A rs.length c step w2 hrd)
        have HRD := Lib.hid hrd
        have HB := Lib.hid hb
        generalize binsFault rs step = f at *
        clear hb hown hrd
        by_cases hf : (f != 0) = true
        · rw [if_pos hf] at hR
          subst hR
          go_wp2_with fail
          refine CB.out.mono ?_
          rintro e w3 ⟨rfl, hk3⟩
          have hk03 := hk.then_ hk3
          go_wp2_with fail
          go_ret3
          exact ⟨readP_nil _ _ _, hk03⟩
        · rw [if_neg hf] at hR
          subst hR
          obtain rfl : f = 0 := by simpa using hf
          go_wp2_with fail
          refine CB.out.mono ?_
          rintro e w3 ⟨rfl, hk3⟩
          have hk03 := hk.then_ hk3
          have hc3 := blk_cell (hk3.obj (non_not _) HB.out) 0 rfl
          have hr3 := HRD.out.kp0 hk3
          go_wp2_with fail
          go_ret3
          exact ⟨⟨A, c, rfl, hr3⟩, hk03⟩
end Go.Proofs.YtcldaldfonfbgaaGreatDoor
