/- Readers of lines: base.Lines, base.Each and the reference's Lines, over whatever closure takes the lines. -/
import Derived.Test.YtcldaldfonfbgaaGreatDoorE1
set_option linter.unusedVariables false
set_option linter.unusedSimpArgs false
namespace Go.Proofs.YtcldaldfonfbgaaGreatDoor
open Go.RowKit

/-- What a closure that appends to a captured row keeps: all below its variable, and all that is no row of type T. -/
structure KO (b T : Nat) (w w' : World) : Prop where
  kp : Kp (Abv b) w w'
  oth : ∀ k o, w.heap[k]? = some o → k ≠ b → (∀ c fz, o ≠ .cells c T fz) → w'.heap[k]? = some o
theorem KO.refl (b T : Nat) (w : World) : KO b T w w := ⟨Kp.refl _ _, fun _ _ h _ _ => h⟩
theorem KO.trans {b T : Nat} {x y z : World} (h : KO b T x y) (k : KO b T y z) : KO b T x z := ⟨h.kp.then_ k.kp, fun i o hi hb ho => k.oth i o (h.oth i o hi hb ho) hb ho⟩
theorem KO.of0 {b T : Nat} {x y : World} (h : Kp Non x y) : KO b T x y := ⟨h.of0, fun i o hi _ _ => h.obj (non_not i) hi⟩
theorem KO.alloc {b T : Nat} {x y : World} (h : KO b T x y) (o : Obj) : KO b T x (y.alloc o) := h.trans (.of0 ((Kp.refl _ _).alloc o))
theorem KO.drewN {b T : Nat} {x y : World} (h : KO b T x y) (n : Nat) : KO b T x (y.drewN n) := h.trans (.of0 ((Kp.refl _ _).drewN n))
theorem KO.self {b T : Nat} {x y : World} (h : KO b T x y) {p : Addr} (hp : p.block = b) (v : Value) : KO b T x (y.setCell p v) :=
  h.trans ⟨(Kp.refl _ _).setCell (.inl (by rw [hp]; exact Nat.le_refl b)) v, fun k o hk hb _ => by rw [Below.heap_setCell _ _ _ _ (by rw [hp]; exact hb)]; exact hk⟩
theorem KO.blk {b T : Nat} {w w' : World} (h : KO b T w w') {i : Nat} {cs : Array Value} {T' : Nat} {fz : Nat × Nat} (hb : w.heap[i]? = some (.cells cs T' fz)) (hT : T' ≠ T) (hne : i ≠ b) : w'.heap[i]? = some (.cells cs T' fz) :=
  h.oth _ _ hb hne (by intro c f hx; injection hx with h1 h2; exact hT h2)
/-- From the world in which the variable was laid. -/
theorem KO.kp0 {T : Nat} {w w' : World} {o : Obj} (h : KO w.heap.size T (w.alloc o) w') : Kp Non w w' :=
  ((Kp.refl Non w).alloc o).trans h.kp fun i hi => .inr hi
theorem KO.env {w w' : World} {b T : Nat} (h : Env w) (k : KO b T w w') (hb : gl ≤ b) : Env w' := h.kp k.kp fun i hi => Nat.le_trans hb hi
theorem Owns.typed' {α : Type} {E : Enc α} {e : TypeId} {w : World} {base : Nat} {A : Option Addr} {c : Nat} {xs : List α} (h : Owns E e w base A c xs) : ∀ a, A = some a → ∃ cur, w.heap[a.block]? = some (.cells cur e (0, 0)) := by
  intro a ha
  subst ha
  rcases h.2 with ⟨h, _⟩ | ⟨g, cap, cur, hv, hb, hg, _⟩
  · cases h
  · injection hv with h1
    injection h1 with h1
    subst h1
    exact ⟨cur, hg⟩
/-- What an append to the row keeps. -/
theorem KO.grown {α : Type} {E : Enc α} {T : Nat} {b : Nat} {w0 w w' : World} {A : Option Addr} {n c : Nat} {l : List α} {base : Nat} (h : KO b T w0 w) (ho : Owns E T w base A c l) (hb : b ≤ base) (hg : w.grownBy w' (Value.slice A n c).ownBlock) : KO b T w0 w' := by
  refine h.trans ⟨(Kp.refl (Abv b) w).grown hg fun i hi => ?_, fun k o hk hne hT => ?_⟩
  · cases A with
    | none => simp [Value.ownBlock] at hi
    | some a =>
      simp [Value.ownBlock] at hi
      subst hi
      exact .inl (Nat.le_trans hb (ho.block a rfl).1)
  · rw [hg.block k (blk_lt hk) ?_]
    · exact hk
    · intro he
      cases A with
      | none => simp [Value.ownBlock] at he
      | some a =>
        simp [Value.ownBlock] at he
        subst he
        obtain ⟨cur, hc⟩ := ho.typed' a rfl
        rw [hk] at hc
        injection hc with hc
        exact hT _ _ hc

/-- A closure that takes lines: it steps its state. -/
structure Taker (N p T M : Nat) {σ : Type} (st : σ → List UInt8 → Bool × σ) (I : Nat → σ → World → Prop) : Prop where
  call : ∀ i s l w, I i s w → i ≤ M → l.length ≤ M → Calls Tryz.prog N #[.string (bs l), .pointer (some ⟨p, 0, none⟩)] w
    fun e w' => e = .returned (.bool (st s l).1) ∧ I (i + 1) (st s l).2 w' ∧ KO p T w w'
  kp : ∀ i s w w', I i s w → Kp Non w w' → I i s w'
  env : ∀ i s w, I i s w → Env w
  low : gl ≤ p
  here : ∀ i s w, I i s w → p < w.heap.size
  enters : ∀ (args : Array Value) (w : World), (callFunc N args).run Tryz.prog w = .ok (.enter N args) w

theorem Rd.strs {w : World} {g : Nat} {xs : List ByteArray} (h : w.heap[g]? = some (.cells (xs.map Value.string).toArray 9 (0, 0))) (hm : xs.length ≤ maxLen) : Rd eStr w (some ⟨g, 0, none⟩) xs.length xs := by
  refine ⟨rfl, flat_len eStr xs, hm, fun hp => ⟨g, 0, rfl, fun j v hj => ?_⟩⟩
  have hf : xs.flatMap eStr.enc = xs.map Value.string := by
    clear h hm hp hj
    induction xs with
    | nil => rfl
    | cons x r ih => simp [eStr] at ih ⊢; exact ih
  rw [hf] at hj
  exact blk_cell h _ (by simpa using hj)

set_option maxHeartbeats 2000000 in
set_option maxRecDepth 100000 in
theorem lines_any (t : ByteArray) (w : World) (he : Env w) (ht : t.size ≤ 4000000000) :
    Calls Tryz.prog 213 #[.string t] w fun e w' => ∃ A n c, e = .returned (.tuple #[.slice A n c, .bool (linesOf t.data.toList).2]) ∧ Rd eStr w' A n ((linesOf t.data.toList).1.map bs) ∧
      (∀ a, A = some a → ∃ cs, w'.heap[a.block]? = some (.cells cs 9 (0, 0)) ∧ w.heap.size ≤ a.block) ∧ Kp Non w w' := by
  obtain ⟨m, hm⟩ := he.maxLen
  by_cases h0 : t = ⟨#[]⟩
  · subst h0
    go_enter Tryz.func213, Tryz.ntmps213
    go_wp2_with fail
    go_ret2
    exact ⟨none, 0, 0, rfl, Rd.nil _ _ _, (fun _ h => by cases h), Kp.refl _ _⟩
  · have hne2 : t.data.toList ≠ [] := fun h => h0 (by rw [← bs_data t, h]; rfl)
    have hne : t.toList.isEmpty = false := by rw [ByteArray.toList_eq]; simpa using hne2
    obtain ⟨L, hL⟩ : ∃ L, L = linesOf t.data.toList := ⟨_, rfl⟩
    rw [← hL]
    have hL1 : L.1 = sp 10 (Lib.trimSuffix t.data.toList [10]) := by rw [hL]; unfold linesOf; rw [if_neg hne2]
    have hL2 : Lib.hasSuffix t.data.toList [10] = L.2 := by rw [hL]; unfold linesOf; rw [if_neg hne2]
    obtain ⟨body, hbody⟩ : ∃ body, body = bs (Lib.trimSuffix t.data.toList [10]) := ⟨_, rfl⟩
    have hbl : body.data.toList = Lib.trimSuffix t.data.toList [10] := by rw [hbody]; simp [bs]
    have hbs : body.size ≤ t.size := by
      rw [Lib.size_eq, hbl, Lib.size_eq]
      unfold Lib.trimSuffix
      split
      · simp
      · exact Nat.le_refl _
    have CS := Tryz.strings_CutSuffix t ⟨#[10]⟩ w (by omega)
    have hsp := splitB_sp 10 body
    have hct := countB_sp 10 body
    rw [hbl, ← hL1] at hsp hct
    have CP := Tryz.strings_Split body ⟨#[10]⟩ m w (by omega) hm (by decide)
    rw [hsp, hct] at CP
    have e1 : (⟨(Lib.trimSuffix t.data.toList (⟨#[10]⟩ : ByteArray).data.toList).toArray⟩ : ByteArray) = body := by rw [hbody]; rfl
    have e2 : Lib.hasSuffix t.data.toList (⟨#[10]⟩ : ByteArray).data.toList = L.2 := hL2
    rw [e1, e2] at CS
    have HCS := Lib.hid CS
    have HCP := Lib.hid CP
    have hlen := lines_len t.data.toList
    rw [← hL] at hlen
    have htl := Lib.size_eq t
    clear CS CP e1 e2 hsp hct hL hL1 hL2 hbody hbl hm
    go_enter Tryz.func213, Tryz.ntmps213
    go_wp2_with fail
    refine HCS.out.mono ?_
    rintro e w1 ⟨rfl, rfl⟩
    go_wp2_with fail
    refine HCP.out.mono ?_
    rintro e w2 ⟨rfl, rfl⟩
    go_wp2_with fail
    go_ret2
    refine ⟨some ⟨w1.heap.size, 0, none⟩, L.1.length, L.1.length, rfl, ?_, ?_, (Kp.refl _ _).alloc _⟩
    · have hx := blk_new w1 ((L.1.map bs).map Value.string).toArray 9
      have := Rd.strs hx (by rw [List.length_map]; unfold maxLen; omega)
      rw [List.length_map] at this
      simpa using this
    · rintro a ha
      injection ha with ha
      subst ha
      exact ⟨_, blk_new w1 _ _, Nat.le_refl _⟩

theorem str_at {w : World} {g o n : Nat} {xs : List ByteArray} (h : Rd eStr w (some ⟨g, o, none⟩) n xs) (j : Nat) (x : ByteArray) (hx : xs[j]? = some x) : w.cell? ⟨g, o + j, none⟩ = some (.string x) := strs_cells h j x hx

set_option maxHeartbeats 4000000 in
set_option maxRecDepth 100000 in
theorem each_any {N p T M : Nat} {σ : Type} {st : σ → List UInt8 → Bool × σ} {I : Nat → σ → World → Prop} (hT : Taker N p T M st I) (hT9 : T ≠ 9) (hM : M ≤ 1000000) (t : ByteArray) (s0 : σ) (w : World) (hI : I 0 s0 w) (ht : t.size < M) :
    Calls Tryz.prog 100 #[.string t, .func (.func N) #[] #[.pointer (some ⟨p, 0, none⟩)]] w
      fun e w' => e = .returned (.tuple #[.int .i64 (readGo st s0 (linesOf t.data.toList).1 (linesOf t.data.toList).2 0).1, .bool (readGo st s0 (linesOf t.data.toList).1 (linesOf t.data.toList).2 0).2.1]) ∧
        (∃ i, I i (readGo st s0 (linesOf t.data.toList).1 (linesOf t.data.toList).2 0).2.2 w' ∧ i ≤ M) ∧ KO p T w w' := by
  have LA := Lib.hid (lines_any t w (hT.env _ _ _ hI) (by omega))
  have hen := hT.enters
  have hlen := lines_len t.data.toList
  have hml := lines_mem_len t.data.toList
  have htl := Lib.size_eq t
  rw [← htl] at hlen hml
  generalize linesOf t.data.toList = L at *
  obtain ⟨L, ends⟩ := L
  have HML := Lib.hid hml
  have HT := Lib.hid hT
  have hpl := hT.here _ _ _ hI
  have HI := Lib.hid hI
  clear hml hT hI
  dsimp only
  generalize hR : readGo st s0 L ends 0 = R
  have HRR := Lib.hid hR
  clear hR
  go_enter Tryz.func100, Tryz.ntmps100
  go_wp2_with fail
  refine LA.out.mono ?_
  rintro e w1 ⟨A, n, c, rfl, hrd, hblk, hk1⟩
  have hpl1 := hk1.size
  have HRD := Lib.hid hrd
  have HBK := Lib.hid hblk
  have hLn : L.length = n := by have := hrd.len; rwa [List.length_map] at this
  have HI1 := Lib.hid (HT.out.kp _ _ _ _ HI.out hk1)
  clear hrd hblk
  go_wp2_with fail
  go_loopg [17] n (fun k s17 wr => ∃ (i : Nat) (s : σ), i + k = n ∧ s17 = .int .i64 i ∧ I i s wr ∧ KO p T w1 wr ∧ readGo st s (L.drop i) ends i = R)
  case atStart => exact ⟨0, s0, by omega, rfl, HI1.out, KO.refl _ _ _, HRR.out⟩
  case round =>
    obtain ⟨i, s, hi, rfl, hIs, hko, hRs⟩ := hrel
    have HIS := Lib.hid hIs
    have hkoW : KO p T w wr := (KO.of0 hk1).trans hko
    by_cases hin : i < n
    · obtain ⟨l, hl⟩ : ∃ l, L[i]? = some l := ⟨_, List.getElem?_eq_getElem (by omega)⟩
      have hdr : L.drop i = l :: L.drop (i + 1) := by
        obtain ⟨h1, h2⟩ := List.getElem?_eq_some_iff.1 hl
        rw [← h2]
        exact List.drop_eq_getElem_cons h1
      have hll := HML.out l (List.mem_of_getElem? hl)
      have hlx : (L.map bs)[i]? = some (bs l) := by rw [List.getElem?_map, hl]; rfl
      obtain ⟨g, o, rfl, _⟩ := HRD.out.at (by omega)
      obtain ⟨cs, hcs, hcg⟩ := HBK.out _ rfl
      have hcell1 := strs_cells HRD.out i _ hlx
      have hcell : wr.cell? ⟨g, o + i, none⟩ = some (.string (bs l)) := by
        have hb := hko.blk hcs hT9.symm (by have : w.heap.size ≤ g := hcg; show g ≠ p; omega)
        unfold World.cell? at hcell1 ⊢
        rw [hb]
        rw [hcs] at hcell1
        exact hcell1
      rw [hdr, readGo] at hRs
      have hemp : (L.drop (i + 1)).isEmpty = decide (i + 1 = n) := by
        rw [Bool.eq_iff_iff]
        simp [List.drop_eq_nil_iff]
        omega
      rw [hemp] at hRs
      have cl := HT.out.call i s l wr hIs (by omega) (by omega)
      have HCELL := Lib.hid hcell
      have HKO := Lib.hid hko
      clear hl hdr hlx hcs hcg hcell1 hIs hko hemp hcell
      by_cases hlast : (decide (i + 1 = n) && !ends) = true
      · rw [if_pos hlast] at hRs
        simp at hlast
        obtain ⟨hl1, rfl⟩ := hlast
        have hcell := HCELL.out
        subst hRs
        have hq : ((i : Int) == (n : Int) - 1) = true := by simp; omega
        go_wp2_with fail
        go_ret2
        exact ⟨rfl, ⟨i, HIS.out, by omega⟩, hkoW⟩
      · rw [if_neg hlast] at hRs
        have hcell := HCELL.out
        have fin : (ends = true) ∨ (ends = false ∧ ((i : Int) == (n : Int) - 1) = false) := by
          cases ends with
          | true => exact .inl rfl
          | false =>
            right
            refine ⟨rfl, ?_⟩
            simp at hlast ⊢
            omega
        clear hlast
        by_cases hb : (st s l).1 = true
        · rw [if_pos hb] at hRs
          rw [hb] at cl
          have HRS := Lib.hid hRs
          have CL := Lib.hid cl
          clear hRs hb cl
          rcases fin with rfl | ⟨rfl, hq⟩
          all_goals
            go_wp2_with fail
            refine CL.out.mono ?_
            rintro e w2 ⟨rfl, hI2, hk2⟩
            have HI2 := Lib.hid hI2
            have hko2 := HKO.out.trans hk2
            clear hI2
            go_wp2_with fail
            go_roundg (gk - 1)
            case measure => omega
            case rel => exact ⟨i + 1, (st s l).2, by omega, by go_num, HI2.out, hko2, HRS.out⟩
        · rw [if_neg hb] at hRs
          have hb' : (st s l).1 = false := by simpa using hb
          rw [hb'] at cl
          have CL := Lib.hid cl
          subst hRs
          clear hb hb' cl
          rcases fin with rfl | ⟨rfl, hq⟩
          all_goals
            go_wp2_with fail
            refine CL.out.mono ?_
            rintro e w2 ⟨rfl, hI2, hk2⟩
            have HI2 := Lib.hid hI2
            have hko2 := hkoW.trans hk2
            clear hI2
            go_wp2_with fail
            go_ret2
            exact ⟨rfl, ⟨i + 1, HI2.out, by omega⟩, hko2⟩
    · obtain rfl : i = n := by omega
      have hd : L.drop i = [] := List.drop_eq_nil_of_le (by omega)
      rw [hd, readGo] at hRs
      subst hRs
      go_wp2_with fail
      go_ret2
      exact ⟨rfl, ⟨i, HIS.out, by omega⟩, hkoW⟩
end Go.Proofs.YtcldaldfonfbgaaGreatDoor
