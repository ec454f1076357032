/- strings.Builder: its check, WriteByte, WriteString; String and Len by the shelf. -/
import Derived.Test.YtcldaldfonfbgaaGreatDoorShelf
import Derived.Test.YtcldaldfonfbgaaGreatDoorA4
import Derived.Deep.QuietTactic
import Derived.BigQuiet
import Derived.Deep.LoopGhost
import Derived.WalkLawsBesides
import Derived.WalkSpells
import Derived.Outline
set_option linter.unusedVariables false
set_option linter.unusedSimpArgs false
namespace Go.Proofs.YtcldaldfonfbgaaGreatDoor
open Go.RowKit

def eByte : Enc UInt8 := ⟨1, fun x => [.int .u8 x.toNat], fun _ => rfl, fun _ u h => by simp at h; subst h; rfl, by decide⟩
theorem flat_byte (l : List UInt8) : l.flatMap eByte.enc = Lib.byteCells l := by
  induction l with
  | nil => rfl
  | cons x l ih => simp [eByte, Lib.byteCells] at ih ⊢; exact ih

/-- Block b is a builder of the call's own that holds l. -/
def Bu (w : World) (b : Nat) (l : List UInt8) : Prop :=
  ∃ p A c, w.heap[b]? = some (.cells #[.pointer p, .slice A l.length c] 156 (0, 0)) ∧ (p = none ∨ p = some ⟨b, 0, none⟩) ∧ Owns eByte 5 w (b + 1) A c l

/-- What the builder's calls keep: all below it, and all that is no row of bytes. -/
structure KB (b : Nat) (w w' : World) : Prop where
  kp : Kp (Abv b) w w'
  oth : ∀ k o, w.heap[k]? = some o → k ≠ b → (∀ c fz, o ≠ .cells c 5 fz) → w'.heap[k]? = some o
theorem KB.refl (b : Nat) (w : World) : KB b w w := ⟨Kp.refl _ _, fun _ _ h _ _ => h⟩
theorem KB.trans {b : Nat} {x y z : World} (h : KB b x y) (k : KB b y z) : KB b x z := ⟨h.kp.then_ k.kp, fun i o hi hb ho => k.oth i o (h.oth i o hi hb ho) hb ho⟩
theorem KB.of0 {b : Nat} {x y : World} (h : Kp Non x y) : KB b x y := ⟨h.of0, fun i o hi _ _ => h.obj (non_not i) hi⟩
theorem KB.alloc {b : Nat} {x y : World} (h : KB b x y) (o : Obj) : KB b x (y.alloc o) := h.trans (.of0 ((Kp.refl _ _).alloc o))
theorem KB.drewN {b : Nat} {x y : World} (h : KB b x y) (n : Nat) : KB b x (y.drewN n) := h.trans (.of0 ((Kp.refl _ _).drewN n))
theorem KB.self {b : Nat} {x y : World} (h : KB b x y) {p : Addr} (hp : p.block = b) (v : Value) : KB b x (y.setCell p v) :=
  h.trans ⟨(Kp.refl _ _).setCell (.inl (by rw [hp]; exact Nat.le_refl b)) v, fun k o hk hb _ => by rw [Below.heap_setCell _ _ _ _ (by rw [hp]; exact hb)]; exact hk⟩
theorem KB.cell {b : Nat} {w w' : World} (h : KB b w w') {p : Addr} {v : Value} {cs : Array Value} {T : Nat} {fz : Nat × Nat} (hb : w.heap[p.block]? = some (.cells cs T fz)) (hT : T ≠ 5) (hne : p.block ≠ b) : w'.heap[p.block]? = some (.cells cs T fz) :=
  h.oth _ _ hb hne (fun c fz' e => by injection e with _ e; exact hT e)
/-- From the world in which the builder was laid. -/
theorem KB.kp0 {w w' : World} {o : Obj} (h : KB w.heap.size (w.alloc o) w') : Kp Non w w' :=
  ((Kp.refl Non w).alloc o).trans h.kp fun i hi => .inr hi

theorem Bu.alloc {w : World} {b : Nat} {l : List UInt8} (h : Bu w b l) (o : Obj) : Bu (w.alloc o) b l := by
  obtain ⟨p, A, c, hb, hp, ho⟩ := h
  exact ⟨p, A, c, ((Kp.refl Non w).alloc o).obj (non_not _) hb, hp, ho.kp0 ((Kp.refl _ _).alloc o)⟩
theorem Bu.kp0 {w w' : World} {b : Nat} {l : List UInt8} (h : Bu w b l) (k : Kp Non w w') : Bu w' b l := by
  obtain ⟨p, A, c, hb, hp, ho⟩ := h
  exact ⟨p, A, c, k.obj (non_not _) hb, hp, ho.kp0 k⟩
theorem Bu.fresh (w : World) : Bu (w.alloc (.cells #[.pointer none, .slice none 0 0] 156)) w.heap.size [] := ⟨none, none, 0, blk_new _ _ _, .inl rfl, Owns.nil _ _ _ _⟩
theorem Bu.lt {w : World} {b : Nat} {l : List UInt8} (h : Bu w b l) : b < w.heap.size := by
  obtain ⟨p, A, c, hb, _⟩ := h; exact blk_lt hb
theorem Bu.lib {w : World} {b : Nat} {l : List UInt8} (h : Bu w b l) : Lib.IsBuilder 156 5 b b (Lib.byteCells l) w := by
  obtain ⟨p, A, c, hb, hp, ho⟩ := h
  have hat : Lib.BuilderAt 156 5 b b (.pointer p) (Lib.byteCells l) w := by
    refine ⟨Nat.le_refl _, _, hb, ?_, ?_⟩
    · rw [Lib.byteCells_length]
      have := ho.lower (Nat.le_succ b)
      unfold Owns at this
      rw [flat_byte] at this
      exact this
    · cases A with
      | none => simp [Value.ownBlock]
      | some a => have := (ho.block a rfl).1; simp [Value.ownBlock]; omega
  rcases hp with rfl | rfl
  · exact .inl hat
  · exact .inr hat

theorem ety_Byte : Ety Tryz.prog 5 1 1 := ety_mk (z := .int .u8 0) (by kernel_rfl) rfl

theorem size_Builder : (Tryz.prog.info? 156).map (·.size) = some 2 := by kernel_rfl
theorem lies_Builder : liesAt Tryz.prog Tryz.prog.depth 156 (2 / Tryz.prog.cellsOf 156) 0 156 1 = true := by kernel_rfl

set_option maxHeartbeats 1000000 in
set_option maxRecDepth 100000 in
theorem copyCheck_any (b : Nat) (l : List UInt8) (w : World) (h : Bu w b l) :
    Calls Tryz.prog 210 #[.pointer (some ⟨b, 0, none⟩)] w fun e w' => e = .returned (.tuple #[]) ∧
      (∃ A c, w'.heap[b]? = some (.cells #[.pointer (some ⟨b, 0, none⟩), .slice A l.length c] 156 (0, 0)) ∧ Owns eByte 5 w' (b + 1) A c l) ∧ KB b w w' := by
  obtain ⟨j, hj, hjs⟩ := Option.map_eq_some_iff.1 size_Builder
  obtain ⟨p, A, c, hb, hp, ho⟩ := h
  have c0 := blk_cell hb 0 rfl
  have e0 := blk_free hb 0
  have hsh : w.shape? b = some (156, 2) := by unfold World.shape?; rw [hb]; rfl
  rcases hp with rfl | rfl
  · have HB := Lib.hid hb
    have HO := Lib.hid ho
    have HSH := Lib.hid hsh
    have HJ := Lib.hid hjs
    clear hb ho hsh hjs
    go_enter Tryz.func210, Tryz.ntmps210
    go_wp2
    rw [Lib.run_to_unsafe w ⟨b, 0, none⟩ Tryz.underlying154 Tryz.underlying360 hj (by rw [HJ.out]; decide) HSH.out (Nat.zero_lt_succ 1)]
    simp only [Result.andThen]
    rw [Oper.upon_value]
    go_wp2
    rw [run_callFunc_extern Tryz.func289 (by kernel_rfl) (by kernel_rfl) (by kernel_rfl) (e := Extern.AbiNoEscape.same) (by kernel_rfl)]
    rw [Lib.run_noEscape]
    simp only [Result.andThen]
    rw [Oper.upon_value]
    go_wp2
    rw [Lib.run_from_unsafe w ⟨b, 0, none⟩ Tryz.underlying360 Tryz.underlying154 hj HSH.out lies_Builder]
    simp only [Result.andThen]
    rw [Oper.upon_value]
    go_wp2
    go_end0
    exact ⟨rfl, ⟨A, c, blk_set HB.out 0 _, HO.out.kpb (S := Sole b) ((Kp.refl (Sole b) w).setCell (p := ⟨b, 0, none⟩) (.inl rfl) _) (by rintro i rfl; omega)⟩, (KB.refl b w).self (p := ⟨b, 0, none⟩) rfl _⟩
  · have HB := Lib.hid hb
    have HO := Lib.hid ho
    clear hb ho hsh hjs
    go_enter Tryz.func210, Tryz.ntmps210
    go_wp2
    rw [Lib.run_neq_ptr_same w _ Tryz.underlying154 hj]
    go_wp2
    go_end0
    exact ⟨rfl, ⟨A, c, HB.out, HO.out⟩, KB.refl b w⟩

theorem Owns.typed {α : Type} {E : Enc α} {e : TypeId} {w : World} {base : Nat} {A : Option Addr} {c : Nat} {xs : List α} (h : Owns E e w base A c xs) : ∀ a, A = some a → ∃ cur, w.heap[a.block]? = some (.cells cur e (0, 0)) := by
  intro a ha
  subst ha
  rcases h.2 with ⟨h, _⟩ | ⟨g, cap, cur, hv, hb, hg, _⟩
  · cases h
  · injection hv with h1
    injection h1 with h1
    subst h1
    exact ⟨cur, hg⟩
/-- What an append to the builder's row keeps. -/
theorem KB.grown {b : Nat} {w0 w w' : World} {A : Option Addr} {n c : Nat} {l : List UInt8} {base : Nat} (h : KB b w0 w) (ho : Owns eByte 5 w base A c l) (hb : b ≤ base) (hg : w.grownBy w' (Value.slice A n c).ownBlock) : KB b w0 w' := by
  refine h.trans ⟨(Kp.refl (Abv b) w).grown hg fun i hi => ?_, fun k o hk hne hT => ?_⟩
  · cases A with
    | none => simp [Value.ownBlock] at hi
    | some a =>
      simp [Value.ownBlock] at hi
      subst hi
      exact .inl (Nat.le_trans hb (ho.block a rfl).1)
  · rw [hg.block k (blk_lt hk) ?_]
    · exact hk
    · intro he
      cases A with
      | none => simp [Value.ownBlock] at he
      | some a =>
        simp [Value.ownBlock] at he
        subst he
        obtain ⟨cur, hc⟩ := ho.typed a rfl
        rw [hk] at hc
        injection hc with hc
        exact hT _ _ hc

set_option maxHeartbeats 1000000 in
set_option maxRecDepth 100000 in
theorem writeByte_any (b : Nat) (l : List UInt8) (v : Int) (x : UInt8) (w : World) (h : Bu w b l) (hv : v = (x.toNat : Int)) (hl : l.length + 1 ≤ 140737488355328) :
    Calls Tryz.prog 92 #[.pointer (some ⟨b, 0, none⟩), .int .u8 v] w fun e w' => e = .returned .nilIface ∧ Bu w' b (l ++ [x]) ∧ KB b w w' := by
  have CC := Lib.hid (copyCheck_any b l w h)
  have HV := Lib.hid hv
  clear h hv
  go_enter Tryz.func92, Tryz.ntmps92
  go_wp2_with fail
  refine CC.out.mono ?_
  rintro e w1 ⟨rfl, ⟨A, c, hb, ho⟩, hk⟩
  have c1 := blk_cell hb 1 rfl
  have hlt := blk_lt hb
  have HB := Lib.hid hb
  have HO := Lib.hid ho
  clear hb ho
  go_wp2_with (at_builtin; refine wp_append1 rfl _ _ 95 5 rfl eByte 1 ety_Byte Tryz.underlying95 (b + 1) A c l.length l x _ _ _ rfl rfl rfl ?c0 ?c1 ?c2 (by omega) (by omega) ?c3 ?c4)
  case c0 => simp
  case c1 => rw [HV.out]; rfl
  case c2 => exact HO.out
  case c3 => omega
  case c4 =>
  intro A2 c2 w2 ho2 hk2 hg2
  have hb2 := hk2.obj (show ¬ b + 1 ≤ b by omega) HB.out
  have d1 := blk_cell hb2 1 rfl
  have e1 := blk_free hb2 1
  have HB2 := Lib.hid hb2
  have HO2 := Lib.hid ho2
  have HKB := Lib.hid ((hk.alloc (.cells #[.int .u8 v] 5)).grown (HO.out.kp0 ((Kp.refl _ _).alloc _)) (Nat.le_succ b) hg2)
  clear hb2 ho2 hk2 hg2
  go_wp2_with fail
  go_ret
  refine ⟨rfl, ⟨some ⟨b, 0, none⟩, A2, c2, ?_, .inr rfl, ?_⟩, HKB.out.self (p := ⟨b, 1, none⟩) rfl _⟩
  · rw [show (l ++ [x]).length = l.length + 1 by simp]
    exact blk_set HB2.out 1 _
  · exact HO2.out.kpb (S := Sole b) ((Kp.refl (Sole b) _).setCell (p := ⟨b, 1, none⟩) (.inl rfl) _) (by rintro i rfl; omega)

theorem ownsRow_shape {w : World} {base : Nat} {e : TypeId} {size : Nat} {v : Value} {n : Nat} {xs : List Value} (h : w.ownsRow base e size v n xs) : ∃ A c, v = .slice A n c := by
  rcases h.2 with ⟨rfl, rfl⟩ | ⟨g, cap, cur, rfl, _⟩
  · exact ⟨none, 0, rfl⟩
  · exact ⟨_, _, rfl⟩

/-- append(out, s...) at a row of bytes. -/
theorem wp_appendStr {ops : Array Oper} {rest : List Oper} {o : Oper} {a : Act} {Q : Exit → Act → World → Prop} {w : World} (hgd : o.guard = none) (sl x : Operand)
    (ho : o.op = .call { callee := .builtin .append, args := #[sl, x], argTypes := #[95, 9] })
    (base : Nat) (A : Option Addr) (c n : Nat) (l : List UInt8) (hn : l.length = n) (hs : a.eval sl = .slice A n c) (s : ByteArray) (hx : a.eval x = .string s) (hown : Owns eByte 5 w base A c l)
    (hbytes : n + s.size ≤ 140737488355328) (hbase : base ≤ w.heap.size)
    (h : ∀ A' c' w', Owns eByte 5 w' base A' c' (l ++ s.data.toList) → Kp (Abv base) w w' → w.grownBy w' (Value.slice A n c).ownBlock → wpList Tryz.prog ops Q rest (a.put o.dst (.slice A' (n + s.size) c')) w') :
    wpList Tryz.prog ops Q (o :: rest) a w := by
  obtain ⟨i, z, hi, hz, hsz, hby, hzs⟩ := ety_Byte.info
  have hz0 : i.zero = some (.int .u8 0) := by
    have : (Tryz.prog.info? 5).map (fun i => i.zero) = some (some (.int .u8 0)) := by kernel_rfl
    rw [hi] at this
    simpa using this
  subst hn
  have hrow : w.ownsRow base 5 1 (.slice A l.length c) l.length (Lib.byteCells l) := by have := hown; unfold Owns at this; rw [flat_byte] at this; exact this
  refine Lib.wpList_append_own_string w hgd sl x 95 9 ho base 5 i Tryz.underlying95 Tryz.underlying9 hi hz0 hsz hby _ l.length _ hs hrow s hx (by unfold maxLen; omega) hbytes hbase ?_
  intro v' w' hown' hg _
  obtain ⟨A', c', rfl⟩ := ownsRow_shape hown'
  have hlen : (l ++ s.data.toList).length = l.length + s.size := by simp
  refine h A' c' w' ?_ ((Kp.refl _ _).grown hg fun i hi => .inl ?_) hg
  · unfold Owns
    rw [flat_byte, hlen, show Lib.byteCells (l ++ s.data.toList) = Lib.byteCells l ++ Lib.strCells s by simp [Lib.byteCells, Lib.strCells]]
    exact hown'
  · cases A with
    | none => simp [Value.ownBlock] at hi
    | some ad =>
      have := (hown.block ad rfl).1
      simp [Value.ownBlock] at hi
      subst hi
      exact this

set_option maxHeartbeats 1000000 in
set_option maxRecDepth 100000 in
theorem writeString_any (b : Nat) (l : List UInt8) (s : ByteArray) (w : World) (h : Bu w b l) (hl : l.length + s.size ≤ 140737488355328) :
    Calls Tryz.prog 93 #[.pointer (some ⟨b, 0, none⟩), .string s] w fun e w' => e = .returned (.tuple #[.int .i64 s.size, .nilIface]) ∧ Bu w' b (l ++ s.data.toList) ∧ KB b w w' := by
  have CC := Lib.hid (copyCheck_any b l w h)
  clear h
  go_enter Tryz.func93, Tryz.ntmps93
  go_wp2_with fail
  refine CC.out.mono ?_
  rintro e w1 ⟨rfl, ⟨A, c, hb, ho⟩, hk⟩
  have c1 := blk_cell hb 1 rfl
  have hlt := blk_lt hb
  have HB := Lib.hid hb
  have HO := Lib.hid ho
  clear hb ho
  go_wp2_with (at_builtin; refine wp_appendStr rfl _ _ rfl (b + 1) A c l.length l rfl rfl s rfl HO.out ?c1 ?c2 ?c3)
  case c1 => exact hl
  case c2 => omega
  case c3 =>
  intro A2 c2 w2 ho2 hk2 hg2
  have hb2 := hk2.obj (show ¬ b + 1 ≤ b by omega) HB.out
  have d1 := blk_cell hb2 1 rfl
  have e1 := blk_free hb2 1
  have HB2 := Lib.hid hb2
  have HO2 := Lib.hid ho2
  have HKB := Lib.hid (hk.grown HO.out (Nat.le_succ b) hg2)
  clear hb2 ho2 hk2 hg2
  go_wp2_with fail
  go_ret2
  refine ⟨rfl, ⟨some ⟨b, 0, none⟩, A2, c2, ?_, .inr rfl, ?_⟩, HKB.out.self (p := ⟨b, 1, none⟩) rfl _⟩
  · rw [show (l ++ s.data.toList).length = l.length + s.size by simp]
    exact blk_set HB2.out 1 _
  · exact HO2.out.kpb (S := Sole b) ((Kp.refl (Sole b) _).setCell (p := ⟨b, 1, none⟩) (.inl rfl) _) (by rintro i rfl; omega)

theorem builderLen_any (b : Nat) (l : List UInt8) (w : World) (h : Bu w b l) :
    Calls Tryz.prog 95 #[.pointer (some ⟨b, 0, none⟩)] w fun e w' => e = .returned (.int .i64 l.length) ∧ w = w' :=
  (Tryz.Builder_Len b b _ w h.lib).mono fun e w' ⟨he, hw⟩ => ⟨by rw [he, Lib.byteCells_length], hw.symm⟩
theorem builderString_any (b : Nat) (l : List UInt8) (w : World) (h : Bu w b l) :
    Calls Tryz.prog 96 #[.pointer (some ⟨b, 0, none⟩)] w fun e w' => e = .returned (.string ⟨l.toArray⟩) ∧ Kp (Abv b) w w' :=
  (Tryz.Builder_String_any b b l w h.lib (Nat.le_of_lt h.lt)).mono fun e w' ⟨he, hb⟩ => ⟨he, ⟨hb.os, hb.tape, hb.output, hb.size, fun k _ hn => hb.block k (Nat.lt_of_not_ge hn)⟩⟩
end Go.Proofs.YtcldaldfonfbgaaGreatDoor
