/- The stream of raw numbers: Pick, Some, Range, Flip, Odd, AStep. -/
import Derived.Test.YtcldaldfonfbgaaGreatDoorA2
set_option linter.unusedVariables false
set_option linter.unusedSimpArgs false
namespace Go.Proofs.YtcldaldfonfbgaaGreatDoor
open Go.RowKit

def picked (l : List Int) (k : Nat) (vals : List Int) : Int := vals.getD (nxt l k vals.length).toNat 0
theorem picked_mem {l : List Int} {k : Nat} {vals : List Int} (h : 0 < vals.length) : picked l k vals ∈ vals := by
  obtain ⟨h0, h1⟩ := nxt_lt (l := l) (k := k) (n := vals.length) (by omega)
  have : (nxt l k vals.length).toNat < vals.length := by omega
  simp [picked, List.getD_eq_getElem?_getD, List.getElem?_eq_getElem this]
theorem picked_bd {l : List Int} {k : Nat} {vals : List Int} (lo hi : Int) (h : 0 < vals.length) (hv : ∀ x ∈ vals, lo ≤ x ∧ x ≤ hi) : lo ≤ picked l k vals ∧ picked l k vals ≤ hi := hv _ (picked_mem h)

set_option maxHeartbeats 800000 in
theorem pick_any (vals : List Int) (n : Nat) (A : Option Addr) (c : Nat) (b : Nat) (l : List Int) (k : Nat) (w : World) (h : Strm w b l k) (hk : k ≤ 1073741823)
    (hr : Reads w A n 1 (vals.map (.int .i64))) (hne : ∀ a, A = some a → a.block ≠ b) (h0 : 0 < n) (hn : n ≤ 4611686018427387904) :
    Calls Tryz.prog 84 #[.pointer (some ⟨b, 0, none⟩), .slice A n c] w fun e w' => e = .returned (.int .i64 (picked l k vals)) ∧ Strm w' b l (k + 1) ∧ Kp (Sole b) w w' := by
  obtain ⟨g, o, rfl, hc⟩ := hr.2.2 (by omega)
  have hl : vals.length = n := by have := hr.1; simpa using this
  obtain ⟨i, hi⟩ : ∃ i : Nat, nxt l k n = i := ⟨(nxt l k n).toNat, by have := nxt_lt (l := l) (k := k) (n := n) (by omega); omega⟩
  obtain ⟨j0, j1⟩ := nxt_lt (l := l) (k := k) (n := n) (by omega)
  rw [hi] at j0 j1
  have hin : i < n := by omega
  have hx : picked l k vals = vals.getD i 0 := by unfold picked; rw [hl, hi, Int.toNat_natCast]
  rw [hx]
  have hcell : ∀ w', Kp (Sole b) w w' → w'.cell? ⟨g, o + i, none⟩ = some (.int .i64 (vals.getD i 0)) := fun w' hk' => by
    refine hk'.cell (p := ⟨g, o + i, none⟩) (fun e => hne ⟨g, o, none⟩ rfl e) (hc i _ ?_)
    simp [List.getD_eq_getElem?_getD, List.getElem?_eq_getElem (show i < vals.length by omega)]
  generalize vals.getD i 0 = x at *
  have NX := Lib.hid (next_any b l k n w h (by omega) (by omega))
  rw [hi] at NX
  have HC := Lib.hid hcell
  clear hx hi hr hc hne hcell h hl
  go_enter Tryz.func84, Tryz.ntmps84
  go_wp2_with fail
  refine NX.out.mono ?_
  rintro e w1 ⟨rfl, hs, hk1⟩
  have hcx := HC.out w1 hk1
  have HS : Hid (Strm _ _ _ _ ∧ Kp _ _ _) := ⟨hs, hk1⟩
  clear hs hk1
  go_wp2_with fail
  go_ret
  exact ⟨rfl, HS.out⟩

/-- Pick of a literal, just laid. -/
theorem pick_lit (vals : List Int) (cs : Array Value) (n : Nat) (b : Nat) (l : List Int) (k : Nat) (w : World) (h : Strm w b l k) (hk : k ≤ 1073741823)
    (hcs : cs = (vals.map (.int .i64)).toArray) (hl : vals.length = n) (h0 : 0 < n) (hn : n ≤ 1000) :
    Calls Tryz.prog 84 #[.pointer (some ⟨b, 0, none⟩), .slice (some ⟨w.heap.size, 0, none⟩) n n] (w.alloc (.cells cs 3))
      fun e w' => e = .returned (.int .i64 (picked l k vals)) ∧ Strm w' b l (k + 1) ∧ Kp (Sole b) w w' := by
  subst hcs
  refine (pick_any vals n (some ⟨w.heap.size, 0, none⟩) n b l k _ (h.alloc _) hk (reads_new w _ 3 n 1 (by simp [hl]) (by unfold maxLen; omega)) ?_ h0 (by omega)).mono ?_
  · intro a ha
    injection ha with ha
    subst ha
    exact Nat.ne_of_gt h.lt
  · rintro e w' ⟨rfl, hs, hk'⟩
    exact ⟨rfl, hs, ((Kp.refl _ w).alloc _).then_ hk'⟩

def ranged (l : List Int) (k : Nat) (low high : Int) : Int := low + nxt l k (high - low + 1)
theorem ranged_bd {l : List Int} {k : Nat} {low high : Int} (h : low ≤ high) : low ≤ ranged l k low high ∧ ranged l k low high ≤ high := by
  have := nxt_lt (l := l) (k := k) (n := high - low + 1) (by omega)
  unfold ranged; omega

theorem range_any (low high : Int) (b : Nat) (l : List Int) (k : Nat) (w : World) (h : Strm w b l k) (hk : k ≤ 1073741823) (h1 : low ≤ high) (h2 : -1152921504606846976 ≤ low) (h3 : high ≤ 1152921504606846976) :
    Calls Tryz.prog 21 #[.pointer (some ⟨b, 0, none⟩), .int .i64 low, .int .i64 high] w
      fun e w' => e = .returned (.int .i64 (ranged l k low high)) ∧ Strm w' b l (k + 1) ∧ Kp (Sole b) w w' := by
  have hb := nxt_lt (l := l) (k := k) (n := high - low + 1) (by omega)
  have NX := Lib.hid (next_any b l k (high - low + 1) w h (by omega) (by omega))
  unfold ranged
  generalize nxt l k (high - low + 1) = x at *
  clear h
  go_enter Tryz.func21, Tryz.ntmps21
  go_wp2_with fail
  refine NX.out.mono ?_
  rintro e w1 ⟨rfl, hs, hk1⟩
  go_wp2_with fail
  go_ret
  exact ⟨rfl, hs, hk1⟩

theorem flip_any (n : Int) (b : Nat) (l : List Int) (k : Nat) (w : World) (h : Strm w b l k) (hk : k ≤ 1073741823) (hn : n ≤ 4611686018427387904) :
    Calls Tryz.prog 87 #[.pointer (some ⟨b, 0, none⟩), .int .i64 n] w
      fun e w' => e = .returned (.bool (nxt l k n == 0)) ∧ Strm w' b l (k + 1) ∧ Kp (Sole b) w w' := by
  have NX := Lib.hid (next_any b l k n w h (by omega) (by omega))
  generalize nxt l k n = x at *
  clear h
  go_enter Tryz.func87, Tryz.ntmps87
  go_wp2_with fail
  refine NX.out.mono ?_
  rintro e w1 ⟨rfl, hs, hk1⟩
  go_wp2_with fail
  go_ret
  exact ⟨rfl, hs, hk1⟩

def odd (l : List Int) (k : Nat) (low high : Int) : Int :=
  if (nxt l k 12 == 0) = true then picked l (k + 1) [low - 1, high + 1, low, high, -1099511627776, 1099511627776] else ranged l (k + 1) low high

theorem odd_any (low high : Int) (b : Nat) (l : List Int) (k : Nat) (w : World) (h : Strm w b l k) (hk : k ≤ 1073741822) (h1 : low ≤ high) (h2 : -1152921504606846976 ≤ low) (h3 : high ≤ 1152921504606846976) :
    Calls Tryz.prog 89 #[.pointer (some ⟨b, 0, none⟩), .int .i64 low, .int .i64 high] w
      fun e w' => e = .returned (.int .i64 (odd l k low high)) ∧ Strm w' b l (k + 2) ∧ Kp (Sole b) w w' := by
  have FL := Lib.hid (flip_any 12 b l k w h (by omega) (by omega))
  have HD : Hid (odd l k low high = _) := rfl
  generalize hx : (nxt l k 12 == 0) = x at *
  have HD : Hid (odd l k low high = if x = true then picked l (k + 1) [low - 1, high + 1, low, high, -1099511627776, 1099511627776] else ranged l (k + 1) low high) := by unfold odd; rw [hx]; exact rfl
  clear h hx
  generalize odd l k low high = y at *
  cases x
  · have hy : y = ranged l (k + 1) low high := HD.out
    subst hy
    clear HD
    go_enter Tryz.func89, Tryz.ntmps89
    go_wp2_with fail
    refine FL.out.mono ?_
    rintro e w1 ⟨rfl, hs, hk1⟩
    go_wp2_with fail
    refine (range_any low high b l (k + 1) _ hs (by omega) h1 h2 h3).mono ?_
    rintro e w2 ⟨rfl, hs2, hk2⟩
    go_wp2_with fail
    go_ret
    exact ⟨rfl, hs2, hk1.then_ hk2⟩
  · have hy : y = picked l (k + 1) [low - 1, high + 1, low, high, -1099511627776, 1099511627776] := HD.out
    subst hy
    clear HD
    go_enter Tryz.func89, Tryz.ntmps89
    go_wp2_with fail
    refine FL.out.mono ?_
    rintro e w1 ⟨rfl, hs, hk1⟩
    go_wp2_with fail
    refine (pick_lit [low - 1, high + 1, low, high, -1099511627776, 1099511627776] _ _ b l (k + 1) _ hs (by omega) rfl rfl (Nat.zero_lt_succ _) (by first | decide | simp)).mono ?_
    rintro e w2 ⟨rfl, hs2, hk2⟩
    go_wp2_with fail
    go_ret
    exact ⟨rfl, hs2, hk1.then_ hk2⟩

def steps_ : List Int := [10, 50, 100, 100, 1, 86400000, 0, 7, -10, 172800000]
theorem astep_any (b : Nat) (l : List Int) (k : Nat) (w : World) (h : Strm w b l k) (hk : k ≤ 1073741822) :
    Calls Tryz.prog 10 #[.pointer (some ⟨b, 0, none⟩)] w
      fun e w' => e = .returned (.int .i64 (picked l k steps_)) ∧ Strm w' b l (k + 1) ∧ Kp (Sole b) w w' := by
  go_enter Tryz.func10, Tryz.ntmps10
  go_wp2_with fail
  refine (pick_lit steps_ _ _ b l k _ h (by omega) rfl rfl (Nat.zero_lt_succ _) (by first | decide | simp)).mono ?_
  rintro e w2 ⟨rfl, hs2, hk2⟩
  go_wp2_with fail
  go_ret
  exact ⟨rfl, hs2, hk2⟩

def pickedS (l : List Int) (k : Nat) (vals : List ByteArray) : ByteArray := vals.getD (nxt l k vals.length).toNat ⟨#[]⟩
theorem pickedS_mem {l : List Int} {k : Nat} {vals : List ByteArray} (h : 0 < vals.length) : pickedS l k vals ∈ vals := by
  obtain ⟨h0, h1⟩ := nxt_lt (l := l) (k := k) (n := vals.length) (by omega)
  have : (nxt l k vals.length).toNat < vals.length := by omega
  simp [pickedS, List.getD_eq_getElem?_getD, List.getElem?_eq_getElem this]

set_option maxHeartbeats 800000 in
theorem some_any (vals : List ByteArray) (n : Nat) (A : Option Addr) (c : Nat) (b : Nat) (l : List Int) (k : Nat) (w : World) (h : Strm w b l k) (hk : k ≤ 1073741823)
    (hr : Reads w A n 1 (vals.map .string)) (hne : ∀ a, A = some a → a.block ≠ b) (h0 : 0 < n) (hn : n ≤ 4611686018427387904) :
    Calls Tryz.prog 108 #[.pointer (some ⟨b, 0, none⟩), .slice A n c] w fun e w' => e = .returned (.string (pickedS l k vals)) ∧ Strm w' b l (k + 1) ∧ Kp (Sole b) w w' := by
  obtain ⟨g, o, rfl, hc⟩ := hr.2.2 (by omega)
  have hl : vals.length = n := by have := hr.1; simpa using this
  obtain ⟨i, hi⟩ : ∃ i : Nat, nxt l k n = i := ⟨(nxt l k n).toNat, by have := nxt_lt (l := l) (k := k) (n := n) (by omega); omega⟩
  obtain ⟨j0, j1⟩ := nxt_lt (l := l) (k := k) (n := n) (by omega)
  rw [hi] at j0 j1
  have hin : i < n := by omega
  have hx : pickedS l k vals = vals.getD i ⟨#[]⟩ := by unfold pickedS; rw [hl, hi, Int.toNat_natCast]
  rw [hx]
  have hcell : ∀ w', Kp (Sole b) w w' → w'.cell? ⟨g, o + i, none⟩ = some (.string (vals.getD i ⟨#[]⟩)) := fun w' hk' => by
    refine hk'.cell (p := ⟨g, o + i, none⟩) (fun e => hne ⟨g, o, none⟩ rfl e) (hc i _ ?_)
    simp [List.getD_eq_getElem?_getD, List.getElem?_eq_getElem (show i < vals.length by omega)]
  generalize vals.getD i ⟨#[]⟩ = x at *
  have NX := Lib.hid (next_any b l k n w h (by omega) (by omega))
  rw [hi] at NX
  have HC := Lib.hid hcell
  clear hx hi hr hc hne hcell h hl
  go_enter Tryz.func108, Tryz.ntmps108
  go_wp2_with fail
  refine NX.out.mono ?_
  rintro e w1 ⟨rfl, hs, hk1⟩
  have hcx := HC.out w1 hk1
  have HS : Hid (Strm _ _ _ _ ∧ Kp _ _ _) := ⟨hs, hk1⟩
  clear hs hk1
  go_wp2_with fail
  go_ret
  exact ⟨rfl, HS.out⟩

theorem some_lit (vals : List ByteArray) (cs : Array Value) (n : Nat) (b : Nat) (l : List Int) (k : Nat) (w : World) (h : Strm w b l k) (hk : k ≤ 1073741823)
    (hcs : cs = (vals.map .string).toArray) (hl : vals.length = n) (h0 : 0 < n) (hn : n ≤ 1000) :
    Calls Tryz.prog 108 #[.pointer (some ⟨b, 0, none⟩), .slice (some ⟨w.heap.size, 0, none⟩) n n] (w.alloc (.cells cs 9))
      fun e w' => e = .returned (.string (pickedS l k vals)) ∧ Strm w' b l (k + 1) ∧ Kp (Sole b) w w' := by
  subst hcs
  refine (some_any vals n (some ⟨w.heap.size, 0, none⟩) n b l k _ (h.alloc _) hk (reads_new w _ 9 n 1 (by simp [hl]) (by unfold maxLen; omega)) ?_ h0 (by omega)).mono ?_
  · intro a ha
    injection ha with ha
    subst ha
    exact Nat.ne_of_gt h.lt
  · rintro e w' ⟨rfl, hs, hk'⟩
    exact ⟨rfl, hs, ((Kp.refl _ w).alloc _).then_ hk'⟩
end Go.Proofs.YtcldaldfonfbgaaGreatDoor
