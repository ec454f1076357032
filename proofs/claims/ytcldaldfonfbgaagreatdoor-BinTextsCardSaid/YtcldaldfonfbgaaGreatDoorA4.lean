/- Rows of elements: what a slice reads as; rows of the call's own; append of one element. -/
import Derived.Test.YtcldaldfonfbgaaGreatDoorA0
set_option linter.unusedVariables false
set_option linter.unusedSimpArgs false
namespace Go.Proofs.YtcldaldfonfbgaaGreatDoor
open Go.RowKit

/-- How an element stands in memory. -/
structure Enc (α : Type) where
  sz : Nat
  enc : α → List Value
  len : ∀ x, (enc x).length = sz
  one : ∀ x, ∀ u ∈ enc x, u.oneCell' = true
  pos : 0 < sz

def eInt : Enc Int := ⟨1, fun x => [.int .i64 x], fun _ => rfl, fun _ u h => by simp at h; subst h; rfl, by decide⟩
def eU8 : Enc Int := ⟨1, fun x => [.int .u8 x], fun _ => rfl, fun _ u h => by simp at h; subst h; rfl, by decide⟩
def eStr : Enc ByteArray := ⟨1, fun x => [.string x], fun _ => rfl, fun _ u h => by simp at h; subst h; rfl, by decide⟩

section
variable {α : Type}
theorem flat_len (E : Enc α) (xs : List α) : (xs.flatMap E.enc).length = xs.length * E.sz := by
  induction xs with
  | nil => simp
  | cons x xs ih => simp [ih, E.len, Nat.add_mul, Nat.add_comm]
theorem flat_at (E : Enc α) (xs : List α) (i j : Nat) (hi : i < xs.length) (hj : j < E.sz) : (xs.flatMap E.enc)[i * E.sz + j]? = (E.enc xs[i])[j]? := by
  induction xs generalizing i with
  | nil => simp at hi
  | cons x xs ih =>
    cases i with
    | zero =>
      simp only [Nat.zero_mul, Nat.zero_add, List.flatMap_cons, List.getElem_cons_zero]
      exact List.getElem?_append_left (by rw [E.len]; exact hj)
    | succ i =>
      simp only [List.flatMap_cons, List.getElem_cons_succ]
      rw [List.getElem?_append_right (by rw [E.len, Nat.add_mul]; omega), E.len, show (i + 1) * E.sz + j - E.sz = i * E.sz + j by rw [Nat.add_mul]; omega]
      exact ih i (by simpa using hi)

/-- The slice (A, n) reads as xs. -/
def Rd (E : Enc α) (w : World) (A : Option Addr) (n : Nat) (xs : List α) : Prop := xs.length = n ∧ Reads w A n E.sz (xs.flatMap E.enc)
theorem Rd.len {E : Enc α} {w : World} {A : Option Addr} {n : Nat} {xs : List α} (h : Rd E w A n xs) : xs.length = n := h.1
theorem Rd.max {E : Enc α} {w : World} {A : Option Addr} {n : Nat} {xs : List α} (h : Rd E w A n xs) : n ≤ 9223372036854775807 := by have := h.2.2.1; unfold maxLen at this; omega
theorem Rd.at {E : Enc α} {w : World} {A : Option Addr} {n : Nat} {xs : List α} (h : Rd E w A n xs) (hp : 0 < n) :
    ∃ g o, A = some ⟨g, o, none⟩ ∧ ∀ (i j : Nat) (hi : i < xs.length) (v : Value), (E.enc xs[i])[j]? = some v → w.cell? ⟨g, o + (i * E.sz + j), none⟩ = some v := by
  obtain ⟨g, o, rfl, hc⟩ := h.2.2.2 (Nat.mul_pos hp E.pos)
  refine ⟨g, o, rfl, fun i j hi v hv => hc _ _ ?_⟩
  have hj : j < E.sz := by have := (List.getElem?_eq_some_iff.1 hv).1; rwa [E.len] at this
  rw [flat_at E xs i j hi hj]; exact hv
theorem Rd.kp {E : Enc α} {w w' : World} {A : Option Addr} {n : Nat} {xs : List α} {S : Nat → Prop} (h : Rd E w A n xs) (k : Kp S w w') (hS : ∀ a, A = some a → ¬ S a.block) : Rd E w' A n xs := ⟨h.1, h.2.kp k hS⟩
theorem Rd.kp0 {E : Enc α} {w w' : World} {A : Option Addr} {n : Nat} {xs : List α} (h : Rd E w A n xs) (k : Kp Non w w') : Rd E w' A n xs := h.kp k fun _ _ => id
theorem Rd.nil (E : Enc α) (w : World) (A : Option Addr) : Rd E w A 0 [] := ⟨rfl, by simp, by unfold maxLen; omega, fun h => by omega⟩
theorem Rd.lt {E : Enc α} {w : World} {A : Option Addr} {n : Nat} {xs : List α} (h : Rd E w A n xs) (hp : 0 < n) : ∀ a, A = some a → a.block < w.heap.size := by
  obtain ⟨g, o, rfl, hc⟩ := h.2.2.2 (Nat.mul_pos hp E.pos)
  intro a ha
  injection ha with ha
  subst ha
  have h0 : 0 < (xs.flatMap E.enc).length := by rw [flat_len, h.1]; exact Nat.mul_pos hp E.pos
  exact World.block_lt_of_cell? _ _ (hc 0 _ (List.getElem?_eq_getElem h0))

/-- A row of the call's own (blocks from base on). -/
def Owns (E : Enc α) (e : TypeId) (w : World) (base : Nat) (A : Option Addr) (c : Nat) (xs : List α) : Prop := w.ownsRow base e E.sz (.slice A xs.length c) xs.length (xs.flatMap E.enc)
theorem Owns.nil (E : Enc α) (e : TypeId) (w : World) (base : Nat) : Owns E e w base none 0 [] := World.ownsRow_nil _ _ _ _
def Abv (B : Nat) : Nat → Prop := fun i => B ≤ i
theorem Owns.block {E : Enc α} {e : TypeId} {w : World} {base : Nat} {A : Option Addr} {c : Nat} {xs : List α} (h : Owns E e w base A c xs) : ∀ a, A = some a → base ≤ a.block ∧ a.block < w.heap.size ∧ a.off = 0 ∧ a.spot = none := by
  intro a ha
  subst ha
  rcases h.2 with ⟨h, _⟩ | ⟨g, cap, cur, hv, hb, hg, _⟩
  · cases h
  · injection hv with h1 h2 h3
    injection h1 with h1
    subst h1
    exact ⟨hb, (Array.getElem?_eq_some_iff.1 hg).1, rfl, rfl⟩
theorem Owns.kp {E : Enc α} {e : TypeId} {w w' : World} {base : Nat} {A : Option Addr} {c : Nat} {xs : List α} {S : Nat → Prop} (h : Owns E e w base A c xs) (k : Kp S w w') (hS : ∀ a, A = some a → ¬ S a.block) : Owns E e w' base A c xs := by
  refine ⟨h.1, ?_⟩
  rcases h.2 with hn | ⟨g, cap, cur, hv, hb, hg, rest⟩
  · exact .inl hn
  · refine .inr ⟨g, cap, cur, hv, hb, ?_, rest⟩
    injection hv with h1
    exact k.obj (hS _ h1) hg
theorem Owns.kp0 {E : Enc α} {e : TypeId} {w w' : World} {base : Nat} {A : Option Addr} {c : Nat} {xs : List α} (h : Owns E e w base A c xs) (k : Kp Non w w') : Owns E e w' base A c xs := h.kp k fun _ _ => id
/-- .. while blocks below the base turn. -/
theorem Owns.kpb {E : Enc α} {e : TypeId} {w w' : World} {base : Nat} {A : Option Addr} {c : Nat} {xs : List α} {S : Nat → Prop} (h : Owns E e w base A c xs) (k : Kp S w w') (hS : ∀ i, S i → i < base) : Owns E e w' base A c xs :=
  h.kp k fun a ha hs => by have := (h.block a ha).1; have := hS _ hs; omega
theorem Owns.rd {E : Enc α} {e : TypeId} {w : World} {base : Nat} {A : Option Addr} {c : Nat} {xs : List α} (h : Owns E e w base A c xs) : Rd E w A xs.length xs := by
  refine ⟨rfl, flat_len E xs, ?_, fun hp => ?_⟩
  · rcases h.2 with ⟨_, hn⟩ | ⟨g, cap, cur, hv, hb, hg, hc, hm, _⟩
    · omega
    · omega
  · rcases h.2 with ⟨hv, hn⟩ | ⟨g, cap, cur, hv, hb, hg, _⟩
    · rw [hn] at hp; omega
    · injection hv with h1
      subst h1
      refine ⟨g, 0, rfl, fun j v hj => ?_⟩
      have := h.cells (g := g) rfl j v hj
      rw [show (⟨g, 0, none⟩ : Addr).add j = ⟨g, j, none⟩ by unfold Addr.add; split <;> simp_all] at this
      rw [Nat.zero_add]; exact this
theorem Owns.lower {E : Enc α} {e : TypeId} {w : World} {base base' : Nat} {A : Option Addr} {c : Nat} {xs : List α} (h : Owns E e w base A c xs) (hb : base' ≤ base) : Owns E e w base' A c xs := by
  refine ⟨h.1, ?_⟩
  rcases h.2 with hn | ⟨g, cap, cur, hv, hb', rest⟩
  · exact .inl hn
  · exact .inr ⟨g, cap, cur, hv, Nat.le_trans hb hb', rest⟩

/-- An element type's row of the table. -/
structure Ety (P : Program) (e : TypeId) (sz bytes : Nat) : Prop where
  info : ∃ i z, P.info? e = some i ∧ i.zero = some z ∧ i.size = sz ∧ i.bytes = bytes ∧ z.cells.size = sz
theorem ety_mk {P : Program} {e : TypeId} {z : Value} {sz bytes : Nat} (h : (P.info? e).map (fun i => (i.zero, i.size, i.bytes)) = some (some z, sz, bytes)) (hz : z.cells.size = sz) : Ety P e sz bytes := by
  obtain ⟨i, h1, h2, h3, h4⟩ := info_parts h
  exact ⟨i, z, h1, h2, h3, h4, hz⟩

theorem Kp.own {S : Nat → Prop} {w0 w w' : World} {B : Nat} (h : Kp S w0 w) (k : Kp (Abv B) w w') (hB : w0.heap.size ≤ B) : Kp S w0 w' := h.trans k fun i (hi : B ≤ i) => .inr (Nat.le_trans hB hi)

/-- append(out, x), x just laid as a literal of one element. -/
theorem wp_append1 {P : Program} {ops : Array Oper} {rest : List Oper} {o : Oper} {a : Act} {Q : Exit → Act → World → Prop} {w : World} (hgd : o.guard = none) (s x : Operand) (t e : TypeId)
    (ho : o.op = .call { callee := .builtin .append, args := #[s, x], argTypes := #[t, t] })
    (E : Enc α) (bytes : Nat) (hE : Ety P e E.sz bytes) (ht : P.underlying t = some (.slice e)) (base : Nat) (A : Option Addr) (c n : Nat) (xs : List α) (y : α) (cs : Array Value) (g c' : Nat) (hn : xs.length = n)
    (hs : a.eval s = .slice A n c) (hx : a.eval x = .slice (some ⟨g, 0, none⟩) 1 c') (hgs : g = w.heap.size) (hcs : cs = (E.enc y).toArray) (hown : Owns E e w base A c xs)
    (hbytes : (n + 1) * bytes ≤ 140737488355328) (h1 : 1 ≤ bytes) (hbase : base ≤ w.heap.size)
    (h : ∀ A' c' w', Owns E e w' base A' c' (xs ++ [y]) → Kp (Abv base) w w' → (w.alloc (.cells cs e)).grownBy w' (Value.slice A n c).ownBlock → wpList P ops Q rest (a.put o.dst (.slice A' (n + 1) c')) w') :
    wpList P ops Q (o :: rest) a (w.alloc (.cells cs e)) := by
  obtain ⟨i, z, hi, hz, hsz, hby, hzs⟩ := hE.info
  subst hcs
  subst hn
  subst hgs
  have hmx : (xs.length + 1) * 1 ≤ (xs.length + 1) * bytes := Nat.mul_le_mul_left _ h1
  refine wpList_append_own (w.alloc (.cells (E.enc y).toArray e)) hgd s x t ho base e i z E.sz bytes ht hi hz hsz hby hzs E.pos _ xs.length (xs.flatMap E.enc) hs (hown.alloc _) ⟨w.heap.size, 0, none⟩ 1 c' (E.enc y) hx (by rw [E.len]; omega) ?_ (E.one y)
    (by unfold maxLen; omega) hbytes (by simp; omega) ?_
  · intro j u hu
    rw [show (⟨w.heap.size, 0, none⟩ : Addr).add j = ⟨w.heap.size, j, none⟩ by unfold Addr.add; split <;> simp_all]
    have h2 : (w.alloc (.cells (E.enc y).toArray e)).heap[w.heap.size]? = some (.cells (E.enc y).toArray e (0, 0)) := heap_alloc_new w _
    unfold World.cell?; rw [h2]; simpa using hu
  · intro v' w' hown' hg _
    have hlen : (xs ++ [y]).length = xs.length + 1 := by simp
    have hfl : (xs ++ [y]).flatMap E.enc = xs.flatMap E.enc ++ E.enc y := by simp
    have hv : ∃ A' c'', v' = .slice A' (xs.length + 1) c'' := by
      rcases hown'.2 with ⟨rfl, hn⟩ | ⟨g, cap, cur, rfl, _⟩
      · omega
      · exact ⟨_, _, rfl⟩
    obtain ⟨A', c'', rfl⟩ := hv
    refine h A' c'' w' (by unfold Owns; rw [hlen, hfl]; exact hown') ?_ hg
    have hk : Kp (Abv base) w (w.alloc (.cells (E.enc y).toArray e)) := (Kp.refl _ w).alloc _
    refine hk.grown hg fun i hi => .inl ?_
    cases A with
    | none => simp [Value.ownBlock] at hi
    | some ad =>
      have := (hown.block ad rfl).1
      simp [Value.ownBlock] at hi
      subst hi
      exact this
end
end Go.Proofs.YtcldaldfonfbgaaGreatDoor
