/- The closures of retain.Read and of the reference's BinsRead. -/
import Derived.Test.YtcldaldfonfbgaaGreatDoorE5
import Derived.Deep.RegionHeldLaw
import Derived.Deep.AppendLies
set_option linter.unusedVariables false
set_option linter.unusedSimpArgs false
namespace Go.Proofs.YtcldaldfonfbgaaGreatDoor
open Go.RowKit

/-- append(out, x) as a step of a region that draws, x laid as a literal of one element in block g. -/
theorem step_append1 {α : Type} {P : Program} {ops : Array Oper} {o : Oper} {a : Act} {K : Act → World → Prop} {Q : Exit → Act → World → Prop} {F : Prop} {w : World} (hgd : o.guard = none) (s x : Operand) (t e : TypeId)
    (ho : o.op = .call { callee := .builtin .append, args := #[s, x], argTypes := #[t, t] })
    (E : Enc α) (bytes : Nat) (hE : Ety P e E.sz bytes) (ht : P.underlying t = some (.slice e)) (base : Nat) (A : Option Addr) (c n : Nat) (xs : List α) (y : α) (cs : Array Value) (g c' : Nat) (hn : xs.length = n)
    (hs : a.eval s = .slice A n c) (hx : a.eval x = .slice (some ⟨g, 0, none⟩) 1 c') (hgs : w.heap[g]? = some (.cells cs e (0, 0))) (hcs : cs = (E.enc y).toArray) (hown : Owns E e w base A c xs)
    (hbytes : (n + 1) * bytes ≤ 140737488355328) (h1 : 1 ≤ bytes) (hbase : base ≤ w.heap.size)
    (h : ∀ A' c' w', Owns E e w' base A' c' (xs ++ [y]) → Kp (Abv base) w w' → w.grownBy w' (Value.slice A n c).ownBlock → K (a.put o.dst (.slice A' (n + 1) c')) w') :
    if Region.wanted o (yielded ops a.tmps) = true then Oper.wp P o a w K Q else F := by
  obtain ⟨i, z, hi, hz, hsz, hby, hzs⟩ := hE.info
  subst hcs
  subst hn
  have hmx : (xs.length + 1) * 1 ≤ (xs.length + 1) * bytes := Nat.mul_le_mul_left _ h1
  refine step_append_lies w hgd s x t ho base e i z E.sz bytes ht hi hz hsz hby hzs E.pos _ xs.length (xs.flatMap E.enc) hs hown ⟨g, 0, none⟩ 1 c' (E.enc y) hx (by rw [E.len]; omega) ?_ (E.one y)
    (by omega) (by unfold maxLen; omega) hbytes hbase _ rfl ?_
  · intro j u hu
    rw [show (⟨g, 0, none⟩ : Addr).add j = ⟨g, j, none⟩ by unfold Addr.add; split <;> simp_all]
    unfold World.cell?; rw [hgs]; simpa using hu
  · intro g cap w' hown' hg _ _
    have hlen : (xs ++ [y]).length = xs.length + 1 := by simp
    have hfl : (xs ++ [y]).flatMap E.enc = xs.flatMap E.enc ++ E.enc y := by simp
    refine h _ cap w' (by unfold Owns; rw [hlen, hfl]; exact hown') ?_ hg
    refine (Kp.refl (Abv base) w).grown hg fun i hi => .inl ?_
    cases A with
    | none => simp [Value.ownBlock] at hi
    | some ad =>
      have := (hown.block ad rfl).1
      simp [Value.ownBlock] at hi
      subst hi
      exact this

def bin6 : List Int → Option Bin
  | [a, b, c, d, e, f] => some ⟨a, b, c, d, e, f⟩
  | _ => none
def parseBin (l : List UInt8) : Option Bin := (numsO num (sp 32 l)).bind bin6
def stBin (s : List Bin) (l : List UInt8) : Bool × List Bin := match parseBin l with
  | some b => (true, s ++ [b])
  | none => (false, s)

theorem bin6_len {ns : List Int} {b : Bin} (h : bin6 ns = some b) : ns = [b.frm, b.sum, b.cnt, b.oth, b.low, b.high] := by
  unfold bin6 at h
  split at h
  · injection h with h; subst h; rfl
  · cases h
theorem bin6_six {ns : List Int} (h : ns.length = 6) : ∃ b, bin6 ns = some b := by
  match ns, h with
  | [a, b, c, d, e, f], _ => exact ⟨_, rfl⟩
theorem num_nil : num [] = none := by rfl
theorem numsO_mem {f : List UInt8 → Option Int} : ∀ {ls : List (List UInt8)} {l : List UInt8}, l ∈ ls → f l = none → numsO f ls = none
  | [], l, h, _ => by cases h
  | x :: r, l, h, hf => by
    rcases List.mem_cons.1 h with rfl | h
    · unfold numsO; rw [hf]
    · unfold numsO
      split
      · rfl
      · rw [numsO_mem h hf]; rfl
theorem numD19 : numD 19 = num := funext numD_num
theorem parse_words {l : List UInt8} (h : wordsOk 6 l = false) : parseBin l = none := by
  unfold parseBin
  cases hn : numsO num (sp 32 l) with
  | none => rfl
  | some ns =>
    have hl := numsO_len hn
    unfold wordsOk at h
    by_cases h6 : (sp 32 l).length = 6
    · simp [h6] at h
      have := numsO_mem h num_nil
      rw [hn] at this
      cases this
    · show bin6 ns = none
      cases hb : bin6 ns with
      | none => rfl
      | some b => 
        have := bin6_len hb
        rw [this] at hl
        exact absurd hl.symm h6
theorem parse_none {l : List UInt8} (h : numsO num (sp 32 l) = none) : parseBin l = none := by unfold parseBin; rw [h]; rfl
theorem parse_some {l : List UInt8} {ns : List Int} {b : Bin} (h : numsO num (sp 32 l) = some ns) (hb : bin6 ns = some b) : parseBin l = some b := by unfold parseBin; rw [h]; exact hb

/-- What the closures keep true. -/
structure BinI (p : Nat) (i : Nat) (s : List Bin) (w : World) : Prop where
  env : Env w
  len : s.length ≤ i
  row : ∃ A c, w.heap[p]? = some (.cells #[.slice A s.length c] 27 (0, 0)) ∧ Owns eBin 39 w (p + 1) A c s
theorem BinI.kp0 {p i : Nat} {s : List Bin} {w w' : World} (h : BinI p i s w) (k : Kp Non w w') : BinI p i s w' := by
  obtain ⟨A, c, hb, ho⟩ := h.row
  exact ⟨h.env.kp0 k, h.len, A, c, k.obj (non_not _) hb, ho.kp0 k⟩

set_option maxHeartbeats 4000000 in
set_option maxRecDepth 100000 in
theorem read1_any (p i : Nat) (s : List Bin) (l : List UInt8) (w : World) (hI : BinI p i s w) (hi : i ≤ 200001) (hl : l.length ≤ 200001) (hp : gl ≤ p) :
    Calls Tryz.prog 101 #[.string (bs l), .pointer (some ⟨p, 0, none⟩)] w
      fun e w' => e = .returned (.bool (stBin s l).1) ∧ BinI p (i + 1) (stBin s l).2 w' ∧ KO p 39 w w' := by
  have WA := Lib.hid (words_any l 6 w hI.env (by omega) (by omega))
  have HI := Lib.hid hI
  have hsl := hI.len
  clear hI
  have wk := fun (s : List Bin) (i : Nat) (w w' : World) (hI : BinI p i s w) (hk : Kp Non w w') => (show BinI p (i + 1) s w' from ⟨(hI.kp0 hk).env, Nat.le_succ_of_le hI.len, (hI.kp0 hk).row⟩)
  have WK := Lib.hid wk
  clear wk
  cases hw : wordsOk 6 l with
  | false =>
    have hpn := parse_words hw
    have hst : stBin s l = (false, s) := by unfold stBin; rw [hpn]
    rw [hst]
    have HW := Lib.hid hw
    clear hw hst hpn
    go_enter Tryz.func101, Tryz.ntmps101
    go_wp2_with fail
    refine WA.out.mono ?_
    rintro e w1 ⟨hP, hk1⟩
    unfold WordsP at hP
    rw [HW.out] at hP
    obtain rfl := hP
    have hII := WK.out _ _ _ _ HI.out hk1
    go_wp2_with fail
    go_ret
    exact ⟨rfl, hII, KO.of0 hk1⟩
  | true =>
    have HW := Lib.hid hw
    have h6 : (sp 32 l).length = 6 := by
      unfold wordsOk at hw
      simp at hw
      exact hw.1
    have H6 := Lib.hid h6
    clear hw h6
    cases hn : numsO num (sp 32 l) with
    | none =>
      have hst : stBin s l = (false, s) := by unfold stBin; rw [parse_none hn]
      rw [hst]
      have HN := Lib.hid hn
      clear hn hst
      go_enter Tryz.func101, Tryz.ntmps101
      go_wp2_with fail
      refine WA.out.mono ?_
      rintro e w1 ⟨hP, hk1⟩
      unfold WordsP at hP
      rw [HW.out] at hP
      obtain ⟨A, c, rfl, hrd⟩ := hP
      have he1 := HI.out.env.kp0 hk1
      have HRD := Lib.hid hrd
      clear hrd
      go_wp2_with fail
      refine (numbersB_any A 6 c 19 (sp 32 l) w1 HRD.out he1 (by omega) (by omega) (fun x hx => by have := sp_mem_len 32 l x hx; omega)).mono ?_
      rintro e w2 ⟨hP, hk2⟩
      rw [numD19, HN.out] at hP
      obtain rfl := hP
      have hII := WK.out _ _ _ _ HI.out (hk1.then_ hk2)
      have hkk := hk1.then_ hk2
      go_wp2_with fail
      go_ret
      exact ⟨rfl, hII, KO.of0 hkk⟩
    | some ns =>
      have hnl := numsO_len hn
      rw [H6.out] at hnl
      obtain ⟨b, hb⟩ := bin6_six hnl
      have hst : stBin s l = (true, s ++ [b]) := by unfold stBin; rw [parse_some hn hb]
      rw [hst]
      have hns := bin6_len hb
      have HNS := Lib.hid hns
      have HN := Lib.hid hn
      clear hn hst hb hns
      go_enter Tryz.func101, Tryz.ntmps101
      go_wp2_with fail
      refine WA.out.mono ?_
      rintro e w1 ⟨hP, hk1⟩
      unfold WordsP at hP
      rw [HW.out] at hP
      obtain ⟨A, c, rfl, hrd⟩ := hP
      have he1 := HI.out.env.kp0 hk1
      have HRD := Lib.hid hrd
      clear hrd
      go_wp2_with fail
      refine (numbersB_any A 6 c 19 (sp 32 l) w1 HRD.out he1 (by omega) (by omega) (fun x hx => by have := sp_mem_len 32 l x hx; omega)).mono ?_
      rintro e w2 ⟨hP, hk2⟩
      rw [numD19, HN.out] at hP
      obtain ⟨A2, c2, rfl, hrd2, hbase2⟩ := hP
      rw [hnl] at hrd2 ⊢
      have hkk := hk1.then_ hk2
      obtain ⟨A3, c3, hbk0, hown0⟩ := HI.out.row
      have hbk := hkk.obj (non_not _) hbk0
      have hown := hown0.kp0 hkk
      obtain ⟨g, o, rfl, hat⟩ := hrd2.at (by omega)
      have hgb : w1.heap.size ≤ g := hbase2 _ rfl
      have hlt2 : g < w2.heap.size := hrd2.lt (by omega) _ rfl
      have hc : ∀ j (hj : j < 6) (v : Int), ns[j]? = some v → w2.cell? ⟨g, o + j, none⟩ = some (.int .i64 v) := by
        intro j hj v hv
        obtain ⟨h1, h2⟩ := List.getElem?_eq_some_iff.1 hv
        have := hat j 0 h1 (.int .i64 v) (by rw [h2]; rfl)
        simpa [eInt] using this
      rw [HNS.out] at hc
      have hc0 := hc 0 (by omega) b.frm rfl
      have hc1 := hc 1 (by omega) b.sum rfl
      have hc2 := hc 2 (by omega) b.cnt rfl
      have hc3 := hc 3 (by omega) b.oth rfl
      have hc4 := hc 4 (by omega) b.low rfl
      have hc5 := hc 5 (by omega) b.high rfl
      rw [Nat.add_zero] at hc0
      have hp0 := blk_cell hbk 0 rfl
      have hplt := blk_lt hbk
      have hpw : p < w.heap.size := by obtain ⟨_, _, hb, _⟩ := HI.out.row; exact blk_lt hb
      have hgp : g ≠ p := by have := hk1.size; omega
      have hAg : some g ≠ (Value.slice A3 s.length c3).ownBlock := by
        cases A3 with
        | none => simp [Value.ownBlock]
        | some a =>
          have := (hown0.block a rfl).2.1
          have := hk1.size
          simp [Value.ownBlock]
          omega
      have HBK := Lib.hid hbk
      have HOWN := Lib.hid hown
      have HKK := Lib.hid hkk
      have HAG := Lib.hid hAg
      clear hc hat hrd2 hbk hown hkk hAg hk1 hk2 hbase2 hbk0 hown0
      go_wp2_with fail
      have hSx : ∀ W : World, (W.heap[g]? = w2.heap[g]?) → W.cell? ⟨g, o, none⟩ = some (.int .i64 b.frm) ∧ W.cell? ⟨g, o + 1, none⟩ = some (.int .i64 b.sum) ∧ W.cell? ⟨g, o + 2, none⟩ = some (.int .i64 b.cnt) ∧ W.cell? ⟨g, o + 3, none⟩ = some (.int .i64 b.oth) ∧ W.cell? ⟨g, o + 4, none⟩ = some (.int .i64 b.low) ∧ W.cell? ⟨g, o + 5, none⟩ = some (.int .i64 b.high) := by
        intro W hW
        have hx : ∀ j, W.cell? ⟨g, j, none⟩ = w2.cell? ⟨g, j, none⟩ := fun j => World.cell?_of_block hW
        rw [hx, hx, hx, hx, hx, hx]
        exact ⟨hc0, hc1, hc2, hc3, hc4, hc5⟩
      obtain ⟨wa, hwa⟩ : ∃ wa, wa = (w2.alloc (.cells #[.int .i64 b.frm, .int .i64 b.sum, .int .i64 b.cnt, .int .i64 b.oth, .int .i64 b.low, .int .i64 b.high] 39)).drew := ⟨_, rfl⟩
      have hka : Kp Non w2 wa := by rw [hwa]; exact ((Kp.refl _ _).alloc _).drewN 1
      have hlit : wa.heap[w2.heap.size]? = some (.cells #[.int .i64 b.frm, .int .i64 b.sum, .int .i64 b.cnt, .int .i64 b.oth, .int .i64 b.low, .int .i64 b.high] 39 (0, 0)) := by rw [hwa]; exact blk_new w2 _ _
      have hwg : wa.heap[g]? = w2.heap[g]? := hka.block g hlt2 (non_not _)
      have hfar : ∀ (W : World) (v : Value) (j : Nat), (W.setCell ⟨p, 0, none⟩ v).cell? ⟨g, j, none⟩ = W.cell? ⟨g, j, none⟩ := fun W v j => World.cell?_of_block (Below.heap_setCell _ _ _ _ hgp)
      have HLIT := Lib.hid hlit
      have HSX := Lib.hid hSx
      have HWG := Lib.hid hwg
      have HKA := Lib.hid hka
      have hbs : p + 1 ≤ wa.heap.size := by have := hka.size; omega
      have HWA := Lib.hid hwa
      clear hSx hwg hka hlit hwa
      refine wp_region_held_drew (S := (fun w' => w'.cell? ⟨g, o, none⟩ = some (.int .i64 b.frm) ∧ w'.cell? ⟨g, o + 1, none⟩ = some (.int .i64 b.sum) ∧ w'.cell? ⟨g, o + 2, none⟩ = some (.int .i64 b.cnt) ∧ w'.cell? ⟨g, o + 3, none⟩ = some (.int .i64 b.oth) ∧ w'.cell? ⟨g, o + 4, none⟩ = some (.int .i64 b.low) ∧ w'.cell? ⟨g, o + 5, none⟩ = some (.int .i64 b.high))) (by kernel_rfl) ?_ (fun hHeld => ?_)
      · (try dsimp only); (first | go_keep | assumption)
      refine wpAnyH_take (i := 1) (oi := _) (v := ?_) rfl (by kernel_rfl) (by kernel_rfl) (by kernel_rfl) (fun _ _ _ h => h) (Or.inl ⟨by rfl, ?_⟩) (by assumption) ?_
      rotate_left
      · intro w hSw; (try dsimp only at hSw); go_simp; try (with_reducible rfl)
      try simp only [Act.put, List.setIfInBounds_toArray, List.set_cons_zero, List.set_cons_succ]
      refine wpAnyH_take (i := 2) (oi := _) (v := ?_) rfl (by kernel_rfl) (by kernel_rfl) (by kernel_rfl) (fun _ _ _ h => h) (Or.inl ⟨by rfl, ?_⟩) (by assumption) ?_
      rotate_left
      · intro w hSw; (try dsimp only at hSw); go_simp; try (with_reducible rfl)
      try simp only [Act.put, List.setIfInBounds_toArray, List.set_cons_zero, List.set_cons_succ]
      refine wpAnyH_take (i := 3) (oi := _) (v := ?_) rfl (by kernel_rfl) (by kernel_rfl) (by kernel_rfl) (fun _ _ _ h => h) (Or.inl ⟨by rfl, ?_⟩) (by assumption) ?_
      rotate_left
      · intro w hSw; (try dsimp only at hSw); go_simp; try (with_reducible rfl)
      try simp only [Act.put, List.setIfInBounds_toArray, List.set_cons_zero, List.set_cons_succ]
      refine wpAnyH_take (i := 4) (oi := _) (v := ?_) rfl (by kernel_rfl) (by kernel_rfl) (by kernel_rfl) (fun _ _ _ h => h) (Or.inl ⟨by rfl, ?_⟩) (by assumption) ?_
      rotate_left
      · intro w hSw; (try dsimp only at hSw); go_simp; try (with_reducible rfl)
      try simp only [Act.put, List.setIfInBounds_toArray, List.set_cons_zero, List.set_cons_succ]
      refine wpAnyH_take (i := 5) (oi := _) (v := ?_) rfl (by kernel_rfl) (by kernel_rfl) (by kernel_rfl) (fun _ _ _ h => h) (Or.inl ⟨by rfl, ?_⟩) (by assumption) ?_
      rotate_left
      · intro w hSw; (try dsimp only at hSw); go_simp; try (with_reducible rfl)
      try simp only [Act.put, List.setIfInBounds_toArray, List.set_cons_zero, List.set_cons_succ]
      refine wpAnyH_take (i := 6) (oi := _) (v := ?_) rfl (by kernel_rfl) (by kernel_rfl) (by kernel_rfl) (fun _ _ _ h => h) (Or.inl ⟨by rfl, ?_⟩) (by assumption) ?_
      rotate_left
      · intro w hSw; (try dsimp only at hSw); go_simp; try (with_reducible rfl)
      try simp only [Act.put, List.setIfInBounds_toArray, List.set_cons_zero, List.set_cons_succ]
      refine wpAnyH_take (i := 7) (oi := _) (v := ?_) rfl (by kernel_rfl) (by kernel_rfl) (by kernel_rfl) (fun _ _ _ h => h) (Or.inl ⟨by rfl, ?_⟩) (by assumption) ?_
      rotate_left
      · intro w hSw; (try dsimp only at hSw); go_simp; try (with_reducible rfl)
      try simp only [Act.put, List.setIfInBounds_toArray, List.set_cons_zero, List.set_cons_succ]
      refine wpAnyH_take (i := 8) (oi := _) (v := ?_) rfl (by kernel_rfl) (by kernel_rfl) (by kernel_rfl) (fun _ _ _ h => h) (Or.inl ⟨by rfl, ?_⟩) (by assumption) ?_
      rotate_left
      · intro w hSw; (try dsimp only at hSw); go_simp; try (with_reducible rfl)
      try simp only [Act.put, List.setIfInBounds_toArray, List.set_cons_zero, List.set_cons_succ]
      refine wpAnyH_take (i := 9) (oi := _) (v := ?_) rfl (by kernel_rfl) (by kernel_rfl) (by kernel_rfl) (fun _ _ _ h => h) (Or.inl ⟨by rfl, ?_⟩) (by assumption) ?_
      rotate_left
      · intro w hSw; (try dsimp only at hSw); go_simp; try (with_reducible rfl)
      try simp only [Act.put, List.setIfInBounds_toArray, List.set_cons_zero, List.set_cons_succ]
      refine wpAnyH_take (i := 10) (oi := _) (v := ?_) rfl (by kernel_rfl) (by kernel_rfl) (by kernel_rfl) (fun _ _ _ h => h) (Or.inl ⟨by rfl, ?_⟩) (by assumption) ?_
      rotate_left
      · intro w hSw; (try dsimp only at hSw); go_simp; try (with_reducible rfl)
      try simp only [Act.put, List.setIfInBounds_toArray, List.set_cons_zero, List.set_cons_succ]
      refine wpAnyH_take (i := 11) (oi := _) (v := ?_) rfl (by kernel_rfl) (by kernel_rfl) (by kernel_rfl) (fun _ _ _ h => h) (Or.inl ⟨by rfl, ?_⟩) (by assumption) ?_
      rotate_left
      · intro w hSw; (try dsimp only at hSw); go_simp; try (with_reducible rfl)
      try simp only [Act.put, List.setIfInBounds_toArray, List.set_cons_zero, List.set_cons_succ]
      refine wpAnyH_take (i := 12) (oi := _) (v := ?_) rfl (by kernel_rfl) (by kernel_rfl) (by kernel_rfl) (fun _ _ _ h => h) (Or.inl ⟨by rfl, ?_⟩) (by assumption) ?_
      rotate_left
      · intro w hSw; (try dsimp only at hSw); go_simp; try (with_reducible rfl)
      try simp only [Act.put, List.setIfInBounds_toArray, List.set_cons_zero, List.set_cons_succ]
      refine wpAnyH_take (i := 13) (oi := _) (v := ?_) rfl (by kernel_rfl) (by kernel_rfl) (by kernel_rfl) (fun _ _ _ h => h) (Or.inl ⟨by rfl, ?_⟩) (by assumption) ?_
      rotate_left
      · intro w hSw; (try dsimp only at hSw); go_simp; try (with_reducible rfl)
      try simp only [Act.put, List.setIfInBounds_toArray, List.set_cons_zero, List.set_cons_succ]
      refine wpAnyH_take (i := 14) (oi := _) (v := ?_) rfl (by kernel_rfl) (by kernel_rfl) (by kernel_rfl) (fun _ _ _ h => h) (Or.inl ⟨by rfl, ?_⟩) (by assumption) ?_
      rotate_left
      · intro w hSw; (try dsimp only at hSw); go_simp; try (with_reducible rfl)
      try simp only [Act.put, List.setIfInBounds_toArray, List.set_cons_zero, List.set_cons_succ]
      refine wpAnyH_take (i := 15) (oi := _) (v := ?_) rfl (by kernel_rfl) (by kernel_rfl) (by kernel_rfl) (fun _ _ _ h => h) (Or.inl ⟨by rfl, ?_⟩) (by assumption) ?_
      rotate_left
      · intro w hSw; (try dsimp only at hSw); go_simp; try (with_reducible rfl)
      try simp only [Act.put, List.setIfInBounds_toArray, List.set_cons_zero, List.set_cons_succ]
      refine wpAnyH_take (i := 16) (oi := _) (v := ?_) rfl (by kernel_rfl) (by kernel_rfl) (by kernel_rfl) (fun _ _ _ h => h) (Or.inl ⟨by rfl, ?_⟩) (by assumption) ?_
      rotate_left
      · intro w hSw; (try dsimp only at hSw); go_simp; try (with_reducible rfl)
      try simp only [Act.put, List.setIfInBounds_toArray, List.set_cons_zero, List.set_cons_succ]
      refine wpAnyH_take (i := 17) (oi := _) (v := ?_) rfl (by kernel_rfl) (by kernel_rfl) (by kernel_rfl) (fun _ _ _ h => h) (Or.inl ⟨by rfl, ?_⟩) (by assumption) ?_
      rotate_left
      · intro w hSw; (try dsimp only at hSw); go_simp; try (with_reducible rfl)
      try simp only [Act.put, List.setIfInBounds_toArray, List.set_cons_zero, List.set_cons_succ]
      refine wpAnyH_take (i := 18) (oi := _) (v := ?_) rfl (by kernel_rfl) (by kernel_rfl) (by kernel_rfl) (fun _ _ _ h => h) (Or.inl ⟨by rfl, ?_⟩) (by assumption) ?_
      rotate_left
      · intro w hSw; (try dsimp only at hSw); go_simp; try (with_reducible rfl)
      try simp only [Act.put, List.setIfInBounds_toArray, List.set_cons_zero, List.set_cons_succ]
      refine wpAnyH_take (i := 19) (oi := _) (v := ?_) rfl (by kernel_rfl) (by kernel_rfl) (by kernel_rfl) (fun _ _ _ h => h) (Or.inl ⟨by rfl, ?_⟩) (by assumption) ?_
      rotate_left
      · intro w hSw; (try dsimp only at hSw); go_simp; try (with_reducible rfl)
      try simp only [Act.put, List.setIfInBounds_toArray, List.set_cons_zero, List.set_cons_succ]
      refine wpAnyH_ready (rs := [0, 20]) (by kernel_rfl) (by simp) ?_
      refine AllReadyH.cons rfl (fun K hK => ?_) (AllReadyH.cons rfl (fun K hK => ?_) AllReadyH.nil)
      rotate_left
      go_simp
      refine hK.out _ _ ?_ (fun hHeld => ?_)
      · (try dsimp only); (first | go_keep | assumption)
      clear hK K
      refine wpAnyH_ready (rs := [0]) (by kernel_rfl) (by simp) ?_
      refine AllReadyH.cons rfl (fun K hK => ?_) AllReadyH.nil
      go_simp
      refine hK.out _ _ ?_ (fun hHeld => ?_)
      · (try dsimp only); (first | go_keep | assumption)
      clear hK K
      refine wpAnyH_ready (rs := [21]) (by kernel_rfl) (by simp) ?_
      refine AllReadyH.cons rfl (fun K hK => ?_) AllReadyH.nil
      rw [← HWA.out]; refine step_append1 rfl (.tmp 21) (.tmp 41) 27 39 rfl eBin 48 ety_Bin Tryz.underlying27 (p + 1) A3 c3 s.length s b _ w2.heap.size 1 rfl (by simp [Act.eval, Act.put]) (by simp [Act.eval, Act.put]) HLIT.out rfl (HOWN.out.kp0 HKA.out) (by omega) (by omega) hbs ?_; intro A5 c5 w5 ho5 hk5 hg5; have hS5 := HSX.out w5 ((hg5.block g (Nat.lt_of_lt_of_le hlt2 HKA.out.size) HAG.out).trans HWG.out); have hb5 := hk5.obj (show ¬ Abv (p + 1) p from Nat.not_succ_le_self p) (HKA.out.obj (non_not _) HBK.out); have hf5 := blk_free hb5 0; have hq5 := blk_cell hb5 0 rfl; obtain ⟨hx0, hx1, hx2, hx3, hx4, hx5⟩ := hS5
      refine hK.out _ _ ?_ (fun hHeld => ?_)
      · (try dsimp only); (first | go_keep | assumption)
      clear hK K
      refine wpAnyH_ready (rs := [22]) (by kernel_rfl) (by simp) ?_
      refine AllReadyH.cons rfl (fun K hK => ?_) AllReadyH.nil
      go_simp
      refine hK.out _ _ ?_ (fun hHeld => ?_)
      · (try dsimp only); (first | go_keep | assumption)
      clear hK K
      refine wpAnyH_done (by kernel_rfl) ?_ _
      rotate_left
      go_simp
      refine hK.out _ _ ?_ (fun hHeld => ?_)
      · (try dsimp only); (first | go_keep | assumption)
      clear hK K
      refine wpAnyH_ready (rs := [20]) (by kernel_rfl) (by simp) ?_
      refine AllReadyH.cons rfl (fun K hK => ?_) AllReadyH.nil
      go_simp
      refine hK.out _ _ ?_ (fun hHeld => ?_)
      · (try dsimp only); (first | go_keep | assumption)
      clear hK K
      refine wpAnyH_ready (rs := [21]) (by kernel_rfl) (by simp) ?_
      refine AllReadyH.cons rfl (fun K hK => ?_) AllReadyH.nil
      rw [← HWA.out]; refine step_append1 rfl (.tmp 21) (.tmp 41) 27 39 rfl eBin 48 ety_Bin Tryz.underlying27 (p + 1) A3 c3 s.length s b _ w2.heap.size 1 rfl (by simp [Act.eval, Act.put]) (by simp [Act.eval, Act.put]) HLIT.out rfl (HOWN.out.kp0 HKA.out) (by omega) (by omega) hbs ?_; intro A5 c5 w5 ho5 hk5 hg5; have hS5 := HSX.out w5 ((hg5.block g (Nat.lt_of_lt_of_le hlt2 HKA.out.size) HAG.out).trans HWG.out); have hb5 := hk5.obj (show ¬ Abv (p + 1) p from Nat.not_succ_le_self p) (HKA.out.obj (non_not _) HBK.out); have hf5 := blk_free hb5 0; have hq5 := blk_cell hb5 0 rfl; obtain ⟨hx0, hx1, hx2, hx3, hx4, hx5⟩ := hS5
      refine hK.out _ _ ?_ (fun hHeld => ?_)
      · (try dsimp only); (first | go_keep | assumption)
      clear hK K
      refine wpAnyH_ready (rs := [22]) (by kernel_rfl) (by simp) ?_
      refine AllReadyH.cons rfl (fun K hK => ?_) AllReadyH.nil
      go_simp
      refine hK.out _ _ ?_ (fun hHeld => ?_)
      · (try dsimp only); (first | go_keep | assumption)
      clear hK K
      refine wpAnyH_done (by kernel_rfl) ?_ _
      all_goals
        have hko := ((KO.of0 (HKK.out.then_ HKA.out)).grown (HOWN.out.kp0 HKA.out) (Nat.le_succ p) hg5).self (p := ⟨p, 0, none⟩) rfl (.slice A5 (s.length + 1) c5)
        have hsz : (s ++ [b]).length = s.length + 1 := by simp
        have hii : BinI p (i + 1) (s ++ [b]) (w5.setCell ⟨p, 0, none⟩ (.slice A5 (s.length + 1) c5)) := by
          refine ⟨hko.env HI.out.env hp, by omega, A5, c5, ?_, ?_⟩
          · rw [hsz]; exact blk_set hb5 0 _
          · exact ho5.kpb (S := Sole p) ((Kp.refl (Sole p) w5).setCell (p := ⟨p, 0, none⟩) (.inl rfl) _) (by rintro i rfl; omega)
        clear hx0 hx1 hx2 hx3 hx4 hx5 ho5 hk5 hg5 hb5 hf5 hq5
        generalize w5.setCell ⟨p, 0, none⟩ (.slice A5 (s.length + 1) c5) = W6 at *
        go_wp2_with fail
        go_ret
        exact ⟨rfl, hii, hko⟩
end Go.Proofs.YtcldaldfonfbgaaGreatDoor
