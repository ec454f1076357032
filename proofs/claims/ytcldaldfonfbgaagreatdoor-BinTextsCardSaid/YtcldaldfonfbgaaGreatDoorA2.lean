/- The stream of raw numbers: the walk of Next. -/
import Derived.Test.YtcldaldfonfbgaaGreatDoorA1
import Derived.Deep.QuietTactic
import Derived.BigQuiet
import Derived.Deep.LoopGhost
import Derived.WalkLawsBesides
import Derived.Outline
set_option linter.unusedVariables false
set_option linter.unusedSimpArgs false
namespace Go.Proofs.YtcldaldfonfbgaaGreatDoor
open Go.RowKit

def nxt (l : List Int) (k : Nat) (n : Int) : Int :=
  if l.length = 0 then below (((k : Int) + 1) * 7919) n
  else below (below (l.getD (k % l.length) 0) 1073741824 + ((k / l.length : Nat) : Int) * (7919 + ((k % l.length : Nat) : Int))) n

/-- Block b is a stream over l, k numbers of which are handed out. -/
structure Strm (w : World) (b : Nat) (l : List Int) (k : Nat) : Prop where
  blk : ∃ A c, w.heap[b]? = some (.cells #[.slice A l.length c, .int .i64 k] 25 (0, 0)) ∧ Reads w A l.length 1 (l.map (.int .i64)) ∧ ∀ a, A = some a → a.block < b
  len : l.length ≤ 17592186044416
  rng : ∀ x ∈ l, -9223372036854775808 ≤ x ∧ x ≤ 9223372036854775807

theorem nxt_lt {l : List Int} {k : Nat} {n : Int} (h : 1 ≤ n) : 0 ≤ nxt l k n ∧ nxt l k n < n := by
  unfold nxt; split <;> exact below_lt h

theorem Strm.drewN {w : World} {b : Nat} {l : List Int} {k : Nat} (h : Strm w b l k) (n : Nat) : Strm (w.drewN n) b l k := ⟨h.blk, h.len, h.rng⟩
theorem Strm.lt {w : World} {b : Nat} {l : List Int} {k : Nat} (h : Strm w b l k) : b < w.heap.size := by
  obtain ⟨A, c, hb, _⟩ := h.blk
  exact (Array.getElem?_eq_some_iff.1 hb).1
theorem Strm.kp {w w' : World} {b : Nat} {l : List Int} {k : Nat} {S : Nat → Prop} (h : Strm w b l k) (hk : Kp S w w') (hS : ∀ i, S i → b < i) : Strm w' b l k := by
  obtain ⟨A, c, hb, hr, ha⟩ := h.blk
  exact ⟨⟨A, c, hk.obj (fun h => by have := hS _ h; omega) hb, hr.kp hk (fun a e h => by have := hS _ h; have := ha a e; omega), ha⟩, h.len, h.rng⟩
theorem Strm.kp0 {w w' : World} {b : Nat} {l : List Int} {k : Nat} (h : Strm w b l k) (hk : Kp Non w w') : Strm w' b l k := h.kp hk fun _ h => h.elim
theorem Strm.alloc {w : World} {b : Nat} {l : List Int} {k : Nat} (h : Strm w b l k) (o : Obj) : Strm (w.alloc o) b l k := h.kp0 ((Kp.refl _ _).alloc o)
theorem Strm.setCell {w : World} {b : Nat} {l : List Int} {k : Nat} (h : Strm w b l k) {p : Addr} (hp : b < p.block) (v : Value) : Strm (w.setCell p v) b l k :=
  h.kp (S := Sole p.block) ((Kp.refl (Sole p.block) _).setCell (.inl rfl) v) fun i hi => by cases hi; exact hp
theorem quo_bd (k m : Nat) (hm : 1 ≤ m) : 0 ≤ (k : Int) / (m : Int) ∧ (k : Int) / (m : Int) ≤ k ∧ 0 ≤ (k : Int) % (m : Int) ∧ (k : Int) % (m : Int) < m ∧
    0 ≤ (k : Int) / (m : Int) * (7919 + (k : Int) % (m : Int)) ∧ (k : Int) / (m : Int) * (7919 + (k : Int) % (m : Int)) ≤ 7920 * k := by
  have h1 : 0 ≤ (k : Int) / (m : Int) := Int.ediv_nonneg (by omega) (by omega)
  have h2 : (k : Int) / (m : Int) ≤ k := Int.ediv_le_self _ (by omega)
  have h3 := Int.emod_nonneg (k : Int) (show (m : Int) ≠ 0 by omega)
  have h4 := Int.emod_lt_of_pos (k : Int) (show (0 : Int) < m by omega)
  have h5 := Int.mul_ediv_add_emod (k : Int) (m : Int)
  refine ⟨h1, h2, h3, h4, Int.mul_nonneg h1 (by omega), ?_⟩
  have h6 : (k : Int) / (m : Int) * ((k : Int) % (m : Int)) ≤ (k : Int) / (m : Int) * (m : Int) := Int.mul_le_mul_of_nonneg_left (by omega) h1
  rw [Int.mul_add]
  rw [Int.mul_comm (m : Int)] at h5
  omega

theorem bump {w : World} {b : Nat} {l : List Int} {k : Nat} (h : Strm w b l k) : Strm (w.setCell ⟨b, 1, none⟩ (.int .i64 ((k : Int) + 1))) b l (k + 1) ∧ Kp (Sole b) w (w.setCell ⟨b, 1, none⟩ (.int .i64 ((k : Int) + 1))) := by
  obtain ⟨A, c, hb, hr, ha⟩ := h.blk
  have hk : Kp (Sole b) w (w.setCell ⟨b, 1, none⟩ (.int .i64 ((k : Int) + 1))) := (Kp.refl (Sole b) w).setCell (p := ⟨b, 1, none⟩) (.inl rfl) _
  refine ⟨⟨⟨A, c, ?_, hr.kp hk (fun a e h => Nat.ne_of_lt (ha a e) h), ha⟩, h.len, h.rng⟩, hk⟩
  simp only [World.setCell, Array.getElem?_modify, hb]
  simp

set_option maxHeartbeats 800000 in
theorem next_any (b : Nat) (l : List Int) (k : Nat) (n : Int) (w : World) (h : Strm w b l k) (hk : k ≤ 1073741824) (hn : n ≤ 4611686018427387904) :
    Calls Tryz.prog 88 #[.pointer (some ⟨b, 0, none⟩), .int .i64 n] w fun e w' => e = .returned (.int .i64 (nxt l k n)) ∧ Strm w' b l (k + 1) ∧ Kp (Sole b) w w' := by
  obtain ⟨hs1, hs2⟩ := bump h
  obtain ⟨A, c, hb, hr, ha⟩ := h.blk
  have c0 : w.cell? ⟨b, 0, none⟩ = some (.slice A l.length c) := by simp [World.cell?, hb]
  have c1 : w.cell? ⟨b, 1, none⟩ = some (.int .i64 (k : Int)) := by simp [World.cell?, hb]
  have f1 : w.frozen? ⟨b, 1, none⟩ = false := by simp [World.frozen?, hb]
  clear hb
  by_cases h0 : l.length = 0
  · have hv : nxt l k n = below (((k : Int) + 1) * 7919) n := if_pos h0
    rw [hv]
    have hl : l = [] := List.eq_nil_of_length_eq_zero h0
    subst hl
    clear hv h0 ha hr h
    have HS : Hid (Strm _ _ _ _ ∧ Kp _ _ _) := ⟨hs1, hs2⟩
    clear hs1 hs2
    go_enter Tryz.func88, Tryz.ntmps88
    go_wp2_with (go_at_call 208; refine (below_any _ _ _ (by omega) (by omega) (by omega)).mono ?_; rintro e w' ⟨rfl, rfl⟩)
    go_ret
    exact ⟨rfl, HS.out⟩
  · have hm : 1 ≤ l.length := by omega
    have hlen := h.len
    obtain ⟨g, o, rfl, hc⟩ := hr.2.2 (by omega)
    have hrl : k % l.length < l.length := Nat.mod_lt _ (by omega)
    have cx : (w.setCell ⟨b, 1, none⟩ (.int .i64 ((k : Int) + 1))).cell? ⟨g, o + k % l.length, none⟩ = some (.int .i64 (l.getD (k % l.length) 0)) := by
      refine hs2.cell (p := ⟨g, o + k % l.length, none⟩) (fun e => Nat.ne_of_lt (ha ⟨g, o, none⟩ rfl) e) (hc _ _ ?_)
      simp [List.getD_eq_getElem?_getD, List.getElem?_eq_getElem hrl]
    obtain ⟨x1, x2⟩ := h.rng (l.getD (k % l.length) 0) (by simp [List.getD_eq_getElem?_getD, List.getElem?_eq_getElem hrl])
    have hv : nxt l k n = below (below (l.getD (k % l.length) 0) 1073741824 + (k : Int) / (l.length : Int) * (7919 + (k : Int) % (l.length : Int))) n := by
      unfold nxt; rw [if_neg h0]; simp
    obtain ⟨q0, q1, r0, r1, p0, p1⟩ := quo_bd k l.length hm
    obtain ⟨y0, y1⟩ := below_lt (x := l.getD (k % l.length) 0) (n := 1073741824) (by omega)
    have hb0 : ((l.length : Int) == 0) = false := by rw [beq_eq_false_iff_ne]; omega
    rw [hv]
    have HS : Hid (Strm _ _ _ _ ∧ Kp _ _ _) := ⟨hs1, hs2⟩
    clear hv h0 ha hr hc h hs1 hs2
    generalize l.getD (k % l.length) 0 = x at *
    generalize hy : below x 1073741824 = y at *
    have cb : ∀ W, Calls Tryz.prog 208 #[.int .i64 x, .int .i64 1073741824] W fun e w' => e = .returned (.int .i64 y) ∧ W = w' := fun W => hy ▸ below_any x 1073741824 W x1 x2 (by omega)
    have CB := Lib.hid cb
    clear cb hy
    go_enter Tryz.func88, Tryz.ntmps88
    go_wp2_with fail
    go_quiet (fail)
    go_wp2_with fail
    go_quiet (fail)
    go_wp2_with fail
    refine (CB.out _).mono ?_
    rintro e w' ⟨rfl, rfl⟩
    go_wp2_with fail
    refine (below_any _ _ _ (by omega) (by omega) (by omega)).mono ?_
    rintro e w' ⟨rfl, rfl⟩
    go_wp2_with fail
    go_ret
    exact ⟨rfl, HS.out.1.drewN _, HS.out.2.drewN _⟩
end Go.Proofs.YtcldaldfonfbgaaGreatDoor
