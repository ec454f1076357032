/- Stream.BinList. -/
import Derived.Test.YtcldaldfonfbgaaGreatDoorF4
import Derived.Deep.RegionWith
set_option linter.unusedVariables false
set_option linter.unusedSimpArgs false
namespace Go.Proofs.YtcldaldfonfbgaaGreatDoor
open Go.RowKit

/-- Block g begins with the elements xs. -/
def RowB {α : Type} (E : Enc α) (e : TypeId) (w : World) (g : Nat) (xs : List α) : Prop := ∃ cur, w.heap[g]? = some (.cells cur e (0, 0)) ∧ ∀ (j : Nat) v, (xs.flatMap E.enc)[j]? = some v → cur[j]? = some v
theorem Owns.row {α : Type} {E : Enc α} {e : TypeId} {w : World} {base : Nat} {A : Option Addr} {c : Nat} {xs : List α} (h : Owns E e w base A c xs) (hp : 0 < xs.length) : ∃ g, A = some ⟨g, 0, none⟩ ∧ base ≤ g ∧ RowB E e w g xs := by
  rcases h.2 with ⟨hv, hn⟩ | ⟨g, cap, cur, hv, hb, hg, _⟩
  · omega
  · injection hv with h1
    subst h1
    refine ⟨g, rfl, hb, cur, hg, fun j v hj => ?_⟩
    have := h.cells (g := g) rfl j v hj
    rw [show (⟨g, 0, none⟩ : Addr).add j = ⟨g, j, none⟩ by unfold Addr.add; split <;> simp_all] at this
    unfold World.cell? at this
    rw [hg] at this
    simpa using this
theorem RowB.rd {α : Type} {E : Enc α} {e : TypeId} {w : World} {g : Nat} {xs : List α} (h : RowB E e w g xs) (hm : xs.length ≤ maxLen) : Rd E w (some ⟨g, 0, none⟩) xs.length xs := by
  obtain ⟨cur, hg, hc⟩ := h
  refine ⟨rfl, flat_len E xs, hm, fun _ => ⟨g, 0, rfl, fun j v hj => ?_⟩⟩
  rw [Nat.zero_add]
  exact blk_cell hg j (hc j v hj)
theorem RowB.kp {α : Type} {E : Enc α} {e : TypeId} {w w' : World} {g : Nat} {xs : List α} {S : Nat → Prop} (h : RowB E e w g xs) (k : Kp S w w') (hS : ¬ S g) : RowB E e w' g xs := by
  obtain ⟨cur, hg, hc⟩ := h
  exact ⟨cur, k.obj hS hg, hc⟩
theorem RowB.cell {α : Type} {E : Enc α} {e : TypeId} {w : World} {g : Nat} {xs : List α} (h : RowB E e w g xs) (i j : Nat) (hi : i < xs.length) {v : Value} (hv : (E.enc xs[i])[j]? = some v) : w.cell? ⟨g, i * E.sz + j, none⟩ = some v ∧ w.frozen? ⟨g, i * E.sz + j, none⟩ = false := by
  obtain ⟨cur, hg, hc⟩ := h
  have hj : j < E.sz := by have := (List.getElem?_eq_some_iff.1 hv).1; rwa [E.len] at this
  exact ⟨blk_cell hg _ (hc _ v (by rw [flat_at E xs i j hi hj]; exact hv)), blk_free hg _⟩
theorem RowB.set {α : Type} {E : Enc α} {e : TypeId} {w : World} {g : Nat} {xs : List α} (h : RowB E e w g xs) (i j : Nat) (hi : i < xs.length) (y : α) (v : Value) (hj : j < E.sz) (hy : E.enc y = (E.enc xs[i]).set j v) :
    RowB E e (w.setCell ⟨g, i * E.sz + j, none⟩ v) g (xs.set i y) := by
  obtain ⟨cur, hg, hc⟩ := h
  refine ⟨_, blk_set hg _ _, fun m u hm => ?_⟩
  have hml := (List.getElem?_eq_some_iff.1 hm).1
  rw [flat_len, List.length_set] at hml
  have hpos := E.pos
  obtain ⟨i', j', rfl, hj'⟩ : ∃ i' j', m = i' * E.sz + j' ∧ j' < E.sz := ⟨m / E.sz, m % E.sz, by rw [Nat.mul_comm]; exact (Nat.div_add_mod m E.sz).symm, Nat.mod_lt _ hpos⟩
  have hi' : i' < xs.length := by
    rcases Nat.lt_or_ge i' xs.length with h | h
    · exact h
    · have := Nat.mul_le_mul_right E.sz h; omega
  rw [flat_at E _ i' j' (by simpa using hi') hj'] at hm
  by_cases hii : i' = i
  · subst hii
    rw [List.getElem_set_self, hy] at hm
    by_cases hjj : j' = j
    · subst hjj
      rw [List.getElem?_set_self (by rw [E.len]; exact hj)] at hm
      injection hm with hm
      subst hm
      have hlt : i' * E.sz + j' < cur.size := by
        have h2 := hc (i' * E.sz + j') _ (by rw [flat_at E xs i' j' hi hj]; exact List.getElem?_eq_getElem (by rw [E.len]; exact hj))
        exact (Array.getElem?_eq_some_iff.1 h2).1
      rw [Array.getElem?_setIfInBounds]
      simp [hlt]
    · rw [List.getElem?_set_ne (Ne.symm hjj)] at hm
      have h2 := hc (i' * E.sz + j') u (by rw [flat_at E xs i' j' hi hj']; exact hm)
      rw [Array.getElem?_setIfInBounds, if_neg (by omega)]
      exact h2
  · rw [List.getElem_set_ne (Ne.symm hii)] at hm
    have h2 := hc (i' * E.sz + j') u (by rw [flat_at E xs i' j' hi' hj']; exact hm)
    have hne : ¬ (i * E.sz + j = i' * E.sz + j') := by
      intro he
      rcases Nat.lt_or_gt_of_ne hii with h | h
      · have := Nat.mul_le_mul_right E.sz (show i' + 1 ≤ i from h); rw [Nat.add_mul] at this; omega
      · have := Nat.mul_le_mul_right E.sz (show i + 1 ≤ i' from h); rw [Nat.add_mul] at this; omega
    rw [Array.getElem?_setIfInBounds, if_neg hne]
    exact h2

def BLP (b : Nat) (l : List Int) (k : Nat) (w : World) (e : Ending) (w' : World) : Prop :=
  (∃ A c ys, e = .returned (.slice A (List.length ys) c) ∧ Rd eBin w' A ys.length ys ∧ ys.length ≤ 8 ∧ (∀ y ∈ ys, y.ok) ∧ ∀ a, A = some a → w.heap.size ≤ a.block) ∧ (∃ k', k' ≤ k + 100 ∧ Strm w' b l k') ∧ Kp (Sole b) w w'
theorem blp_of {b : Nat} {l : List Int} {k k' : Nat} {w w' : World} {A : Option Addr} {n c : Nat} {ys : List Bin} (hn : ys.length = n) (hr : Rd eBin w' A n ys) (h8 : n ≤ 8) (hok : ∀ y ∈ ys, y.ok) (hk' : k' ≤ k + 100) (hs : Strm w' b l k') (hk : Kp (Sole b) w w') (hA : ∀ a, A = some a → w.heap.size ≤ a.block) :
    BLP b l k w (.returned (.slice A n c)) w' := by
  subst hn
  exact ⟨⟨A, c, ys, rfl, hr, h8, hok, hA⟩, ⟨k', hk', hs⟩, hk⟩
theorem set_ok {ys : List Bin} {i : Nat} {y : Bin} (h : ∀ y ∈ ys, y.ok) (hy : y.ok) : ∀ z ∈ ys.set i y, z.ok := by
  intro z hz
  rcases List.mem_or_eq_of_mem_set hz with h1 | rfl
  · exact h z h1
  · exact hy
/-- Where a bin of the row lies that is changed. -/
theorem row_bin {w : World} {g i : Nat} {ys : List Bin} (h : RowB eBin 39 w g ys) (hi : i < ys.length) :
    ∃ x, x ∈ ys ∧ w.cell? ⟨g, i * 6, none⟩ = some (.int .i64 x.frm) ∧ w.cell? ⟨g, i * 6 + 1, none⟩ = some (.int .i64 x.sum) ∧ (∀ j, j < 6 → ∃ u, w.cell? ⟨g, i * 6 + j, none⟩ = some u) ∧ (∀ j, w.frozen? ⟨g, j, none⟩ = false) ∧
      (∀ W, RowB eBin 39 W g ys → ∀ v, RowB eBin 39 (W.setCell ⟨g, i * 6, none⟩ (.int .i64 v)) g (ys.set i { x with frm := v })) ∧
      (∀ W, RowB eBin 39 W g ys → ∀ v, RowB eBin 39 (W.setCell ⟨g, i * 6 + 1, none⟩ (.int .i64 v)) g (ys.set i { x with sum := v })) ∧
      (∀ W, RowB eBin 39 W g ys → ∀ u v, RowB eBin 39 ((W.setCell ⟨g, i * 6 + 2, none⟩ (.int .i64 u)).setCell ⟨g, i * 6 + 3, none⟩ (.int .i64 v)) g (ys.set i { x with cnt := u, oth := v })) ∧
      (∀ W, RowB eBin 39 W g ys → ∀ u v, RowB eBin 39 ((W.setCell ⟨g, i * 6 + 4, none⟩ (.int .i64 u)).setCell ⟨g, i * 6 + 5, none⟩ (.int .i64 v)) g (ys.set i { x with low := u, high := v })) := by
  have hc : ∀ j (hj : j < 6), ∃ u, w.cell? ⟨g, i * 6 + j, none⟩ = some u := fun j hj => ⟨_, (h.cell i j hi (List.getElem?_eq_getElem (by rw [eBin.len]; exact hj))).1⟩
  have hf : ∀ j, w.frozen? ⟨g, j, none⟩ = false := by
    intro j
    obtain ⟨cur, hg, _⟩ := h
    exact blk_free hg j
  refine ⟨ys[i], List.getElem_mem _, (h.cell i 0 hi rfl).1, (h.cell i 1 hi rfl).1, hc, hf, ?_, ?_, ?_, ?_⟩
  · intro W hW v
    exact hW.set i 0 hi _ _ (by decide) rfl
  · intro W hW v
    exact hW.set i 1 hi _ _ (by decide) rfl
  · intro W hW u v
    have h1 := hW.set i 2 hi { ys[i] with cnt := u } (.int .i64 u) (by decide) rfl
    have hi2 : i < (ys.set i { ys[i] with cnt := u }).length := by simpa using hi
    have h2 := h1.set i 3 hi2 { ys[i] with cnt := u, oth := v } (.int .i64 v) (by decide) (by rw [List.getElem_set_self]; rfl)
    rw [List.set_set] at h2
    exact h2
  · intro W hW u v
    have h1 := hW.set i 4 hi { ys[i] with low := u } (.int .i64 u) (by decide) rfl
    have hi2 : i < (ys.set i { ys[i] with low := u }).length := by simpa using hi
    have h2 := h1.set i 5 hi2 { ys[i] with low := u, high := v } (.int .i64 v) (by decide) (by rw [List.getElem_set_self]; rfl)
    rw [List.set_set] at h2
    exact h2

theorem odd_ok (l : List Int) (k : Nat) (low high : Int) (h : low ≤ high) (h1 : -1000000 ≤ low) (h2 : high ≤ 1000000) : i64ok (odd l k low high) := by
  unfold odd
  split
  · have := picked_mem (l := l) (k := k + 1) (vals := [low - 1, high + 1, low, high, -1099511627776, 1099511627776]) (by simp)
    simp at this
    unfold i64ok
    omega
  · have := ranged_bd (l := l) (k := k + 1) h
    unfold i64ok
    omega

theorem wrapk_ok (x : Int) : i64ok (IntKind.i64.wrap x) := by
  have h : IntKind.i64.wrap x = if decide (x % 18446744073709551616 ≥ 9223372036854775808) = true then x % 18446744073709551616 - 18446744073709551616 else x % 18446744073709551616 := rfl
  rw [h]
  unfold i64ok
  by_cases h : x % 18446744073709551616 ≥ 9223372036854775808
  · rw [if_pos (by simpa using h)]; omega
  · rw [if_neg (by simpa using h)]; omega

set_option maxHeartbeats 16000000 in
set_option maxRecDepth 100000 in
theorem binList_any (step : Int) (b : Nat) (l : List Int) (k : Nat) (w : World) (h : Strm w b l k) (hk : k ≤ 1000000) :
    Calls Tryz.prog 11 #[.pointer (some ⟨b, 0, none⟩), .int .i64 step] w fun e w' => BLP b l k w e w' := by
  have SF := Lib.hid (stepFault_any step)
  cases hs : isStepB step
  · rw [hs] at SF
    simp only [reduceIte, Bool.false_eq_true] at SF
    go_enter Tryz.func11, Tryz.ntmps11
    go_wp2_with fail
    refine (SF.out _).mono ?_
    rintro e w1 ⟨rfl, rfl⟩
    go_wp2_with fail
    go_ret
    exact blp_of (ys := []) rfl (Rd.nil _ _ _) (by omega) (by simp) (Nat.le_add_right _ _) h (Kp.refl _ _) (fun _ h => by cases h)
  · rw [hs] at SF
    simp only [reduceIte] at SF
    have RS := Lib.hid (rightSamples_any 8 b l k w h hk (by omega) (by omega))
    have hlen := rs_len l k 8 (by omega)
    have hok := rs_ok l k 8 (by omega) (by omega)
    have hlt := h.lt
    generalize rightSamples l k 8 = R at *
    generalize rightSamplesK l k 8 = KK at *
    have HOK := Lib.hid hok
    obtain ⟨hst1, hst2⟩ := isStepB_true hs
    clear hok
    go_enter Tryz.func11, Tryz.ntmps11
    go_wp2_with fail
    refine (SF.out _).mono ?_
    rintro e w1 ⟨rfl, rfl⟩
    go_wp2_with fail
    refine RS.out.mono ?_
    rintro e w2 ⟨A, c, rfl, hown, hs2, hk2⟩
    have hrd := hown.rd
    go_wp2_with fail
    refine (binsOf_weak A R.length c R step w2 hrd (by omega) hst1 hst2 HOK.out).mono ?_
    rintro e w3 ⟨A3, c3, ys, rfl, hown3, ⟨hyl, hyok⟩, hk3⟩
    have hs3 := hs2.kp0 hk3
    have hk03 : Kp (Sole b) w w3 := hk2.then0 hk3
    have hk2s := hk2.size
    have HYOK := Lib.hid hyok
    have HO3 := Lib.hid hown3
    have HS3 := Lib.hid hs3
    clear hown hrd hs2 hk2 hk3 hyok hown3 hs3
    by_cases h0 : ys.length = 0
    · go_wp2_with fail
      go_ret
      exact blp_of (k' := KK) h0 (by have := HO3.out.rd; rwa [h0] at this) (by omega) HYOK.out (by omega) HS3.out hk03 (fun a ha => Nat.le_trans hk2s (HO3.out.block a ha).1)
    · obtain ⟨n, hn⟩ : ∃ n, n = ys.length := ⟨_, rfl⟩
      have hrow := HO3.out.row (by omega)
      have hrd3 := HO3.out.rd
      rw [← hn] at hrd3
      obtain ⟨g, rfl, hgb, hrowg⟩ := hrow
      have FL := Lib.hid (flip_any 8 b l KK w3 HS3.out (by omega) (by omega))
      have hnb := nxt_lt (l := l) (k := KK + 1) (n := n) (by omega)
      obtain ⟨i, hi⟩ : ∃ i : Nat, nxt l (KK + 1) n = i := ⟨_, (Int.toNat_of_nonneg hnb.1).symm⟩
      have N1 := Lib.hid (fun W (hW : Strm W b l (KK + 1)) => next_any b l (KK + 1) n W hW (by omega) (by omega))
      have N2 := Lib.hid (fun W (hW : Strm W b l (KK + 1 + 1)) => next_any b l (KK + 1 + 1) 4 W hW (by omega) (by omega))
      have hnb2 := nxt_lt (l := l) (k := KK + 1 + 1) (n := 4) (by omega)
      rw [hi] at N1 hnb
      have hgneb : g ≠ b := by omega
      have HRW := Lib.hid (row_bin hrowg (show i < ys.length by omega))
      have HROW := Lib.hid hrowg
      have HRD3 := Lib.hid hrd3
      have HN := Lib.hid hn
      have h8 : n ≤ 8 := by omega
      have hin : i < n := by omega
      have hnp : 0 < n := by omega
      generalize nxt l (KK + 1 + 1) 4 = cs at *
      generalize (nxt l KK 8 == 0) = x at *
      clear hrd3 hi hrowg
      rw [← hn]
      clear hn h0 hyl
      cases x
      · go_wp2_with fail
        refine FL.out.mono ?_
        rintro e w4 ⟨rfl, hs4, hk4⟩
        have hk04 := hk03.then_ hk4
        have hrd4 := HRD3.out.kp hk4 (by rintro a ha hh; injection ha with ha; subst ha; exact hgneb hh)
        go_wp2_with fail
        go_ret
        exact blp_of (k' := KK + 1) HN.out.symm hrd4 h8 HYOK.out (by omega) hs4 hk04 (by rintro a ha; injection ha with ha; subst ha; exact Nat.le_trans hk2s hgb)
      · go_wp2_with fail
        refine FL.out.mono ?_
        rintro e w4 ⟨rfl, hs4, hk4⟩
        go_wp2_with fail
        refine (N1.out _ hs4).mono ?_
        rintro e w5 ⟨rfl, hs5, hk5⟩
        go_wp2_with fail
        refine (N2.out _ hs5).mono ?_
        rintro e w6 ⟨rfl, hs6, hk6⟩
        have hk36 := (hk4.then_ hk5).then_ hk6
        have hrow6 := HROW.out.kp hk36 hgneb
        have hk06 := hk03.then_ hk36
        obtain ⟨x, hxm, -, -, hxc, hxf, U0, U1, U2, U3⟩ := HRW.out
        have hxok := HYOK.out x hxm
        have HXOK := Lib.hid hxok
        have HU0 := Lib.hid U0
        have HU1 := Lib.hid U1
        have HU2 := Lib.hid U2
        have HU3 := Lib.hid U3
        have HROW6 := Lib.hid hrow6
        clear hxc hxf U0 U1 U2 U3 hxok hxm hrow6 hs4 hs5 hk4 hk5 hk6
        have hfin : Hid (∀ (ys' : List Bin) (K' : Nat) (W : World), ys'.length = ys.length → RowB eBin 39 W g ys' → (∀ y ∈ ys', y.ok) → K' ≤ KK + 10 → Strm W b l K' → Kp (Sole b) w W → BLP b l k w (.returned (.slice (some ⟨g, 0, none⟩) n c3)) W) := by
          intro ys' K' W hl hr ho hK hS hW
          have hnn := HN.out
          have := hr.rd (by unfold maxLen; omega)
          rw [hl, ← hnn] at this
          exact blp_of (by omega) this h8 ho (by omega) hS hW (by rintro a ha; injection ha with ha; subst ha; exact Nat.le_trans hk2s hgb)
        have hwg : w.heap.size ≤ g := by omega
        rcases (show cs = 0 ∨ cs = 1 ∨ cs = 2 ∨ cs = 3 by omega) with rfl | rfl | rfl | rfl
        · obtain ⟨ns, hns⟩ : ∃ ns, ns = IntKind.i64.wrap (-step) := ⟨_, rfl⟩
          have hs6' := hs6.alloc (.cells #[.int .i64 1, .int .i64 ns, .int .i64 step] 3)
          have hW : Kp Non (w6.alloc (.cells #[.int .i64 1, .int .i64 ns, .int .i64 step] 3)) (w6.alloc (.cells #[.int .i64 1, .int .i64 ns, .int .i64 step] 3)).drew := (Kp.refl _ _).drewN 1
          have PK := Lib.hid (pick_any [1, ns, step] 3 (some ⟨w6.heap.size, 0, none⟩) 3 b l (KK + 1 + 1 + 1) _ (hs6'.kp0 hW) (by omega) ((reads_new w6 [.int .i64 1, .int .i64 ns, .int .i64 step] 3 3 1 rfl (by decide)).kp hW (fun _ _ => id)) (by rintro a ha; injection ha with ha; subst ha; have := hs6.lt; show w6.heap.size ≠ b; omega) (by omega) (by omega))
          generalize picked l (KK + 1 + 1 + 1) [1, ns, step] = v1 at *
          have hkw : Kp Non w6 (w6.alloc (.cells #[.int .i64 1, .int .i64 ns, .int .i64 step] 3)).drew := ((Kp.refl _ _).alloc _).then_ hW
          have HKW := Lib.hid hkw
          rw [hns] at PK HKW
          clear hs6' hW hkw hns
          have hnl : i < ys.length := by have := HN.out; omega
          obtain ⟨x', hxm', hc0, -, -, hxf, V0, _⟩ := row_bin HROW6.out hnl
          have hca : ∀ o, (w6.alloc o).cell? ⟨g, i * 6, none⟩ = some (.int .i64 x'.frm) := fun o => ((Kp.refl Non w6).alloc o).cell (p := ⟨g, i * 6, none⟩) (non_not _) hc0
          go_wp2_with fail
          go_region_with (go_at_call 84; refine PK.out.mono ?_; rintro e w7 ⟨rfl, hs7, hk7⟩; have hq0 := hk7.cell (p := ⟨g, i * 6, none⟩) hgneb (HKW.out.cell (p := ⟨g, i * 6, none⟩) (non_not _) hc0); have hqr := HROW6.out.kp (HKW.out.of0.then_ hk7) hgneb; have hqf := (row_bin hqr hnl).choose_spec.2.2.2.2.1 (i * 6))
          all_goals
            have hrow9 := V0 _ hqr (IntKind.i64.wrap (x'.frm + v1))
            have hxk := HYOK.out x' hxm'
            have hok9 := set_ok (i := i) HYOK.out (show Bin.ok { x' with frm := IntKind.i64.wrap (x'.frm + v1) } from ⟨wrapk_ok _, hxk.2⟩)
            have HROW9 := Lib.hid hrow9
            have HOK9 := Lib.hid hok9
            have hkz := hk06.then_ (HKW.out.of0.then_ hk7)
            have hbg : b < g := by omega
            have hsz := hs7.setCell (p := ⟨g, i * 6, none⟩) hbg (.int .i64 (IntKind.i64.wrap (x'.frm + v1)))
            have hkz2 := hkz.setCell (p := ⟨g, i * 6, none⟩) (.inr hwg) (.int .i64 (IntKind.i64.wrap (x'.frm + v1)))
            clear hrow9 hok9 hxk hqr hqf hq0 hc0 hca hxf V0 hkz hk7 hs7
            generalize w7.setCell ⟨g, i * 6, none⟩ (.int .i64 (IntKind.i64.wrap (x'.frm + v1))) = W9 at *
            go_wp2_with fail
            go_ret
            exact hfin.out _ _ _ (by simp) HROW9.out HOK9.out (by omega) hsz hkz2
        · have hs6' := hs6.alloc (.cells #[.int .i64 1, .int .i64 1000, .int .i64 (-1000)] 3)
          have hW : Kp Non (w6.alloc (.cells #[.int .i64 1, .int .i64 1000, .int .i64 (-1000)] 3)) (w6.alloc (.cells #[.int .i64 1, .int .i64 1000, .int .i64 (-1000)] 3)).drew := (Kp.refl _ _).drewN 1
          have PK := Lib.hid (pick_any [1, 1000, -1000] 3 (some ⟨w6.heap.size, 0, none⟩) 3 b l (KK + 1 + 1 + 1) _ (hs6'.kp0 hW) (by omega) ((reads_new w6 [.int .i64 1, .int .i64 1000, .int .i64 (-1000)] 3 3 1 rfl (by decide)).kp hW (fun _ _ => id)) (by rintro a ha; injection ha with ha; subst ha; have := hs6.lt; show w6.heap.size ≠ b; omega) (by omega) (by omega))
          generalize picked l (KK + 1 + 1 + 1) [1, 1000, -1000] = v1 at *
          have hkw : Kp Non w6 (w6.alloc (.cells #[.int .i64 1, .int .i64 1000, .int .i64 (-1000)] 3)).drew := ((Kp.refl _ _).alloc _).then_ hW
          have HKW := Lib.hid hkw
          clear hs6' hW hkw
          have hnl : i < ys.length := by have := HN.out; omega
          obtain ⟨x', hxm', -, hc0, -, hxf, -, V0, _⟩ := row_bin HROW6.out hnl
          have hca : ∀ o, (w6.alloc o).cell? ⟨g, i * 6 + 1, none⟩ = some (.int .i64 x'.sum) := fun o => ((Kp.refl Non w6).alloc o).cell (p := ⟨g, i * 6 + 1, none⟩) (non_not _) hc0
          go_wp2_with fail
          go_region_with (go_at_call 84; refine PK.out.mono ?_; rintro e w7 ⟨rfl, hs7, hk7⟩; have hq0 := hk7.cell (p := ⟨g, i * 6 + 1, none⟩) hgneb (HKW.out.cell (p := ⟨g, i * 6 + 1, none⟩) (non_not _) hc0); have hqr := HROW6.out.kp (HKW.out.of0.then_ hk7) hgneb; have hqf := (row_bin hqr hnl).choose_spec.2.2.2.2.1 (i * 6 + 1))
          all_goals
            have hrow9 := V0 _ hqr (IntKind.i64.wrap (x'.sum + v1))
            have hxk := HYOK.out x' hxm'
            have hok9 := set_ok (i := i) HYOK.out (show Bin.ok { x' with sum := IntKind.i64.wrap (x'.sum + v1) } from ⟨hxk.1, wrapk_ok _, hxk.2.2⟩)
            have HROW9 := Lib.hid hrow9
            have HOK9 := Lib.hid hok9
            have hkz := hk06.then_ (HKW.out.of0.then_ hk7)
            have hbg : b < g := by omega
            have hsz := hs7.setCell (p := ⟨g, i * 6 + 1, none⟩) hbg (.int .i64 (IntKind.i64.wrap (x'.sum + v1)))
            have hkz2 := hkz.setCell (p := ⟨g, i * 6 + 1, none⟩) (.inr hwg) (.int .i64 (IntKind.i64.wrap (x'.sum + v1)))
            clear hrow9 hok9 hxk hqr hqf hq0 hc0 hca hxf V0 hkz hk7 hs7
            generalize w7.setCell ⟨g, i * 6 + 1, none⟩ (.int .i64 (IntKind.i64.wrap (x'.sum + v1))) = W9 at *
            go_wp2_with fail
            go_ret
            exact hfin.out _ _ _ (by simp) HROW9.out HOK9.out (by omega) hsz hkz2
        · have OD := Lib.hid (odd_any 0 3 b l (KK + 1 + 1 + 1) w6 hs6 (by omega) (by omega) (by omega) (by omega))
          have ho := odd_ok l (KK + 1 + 1 + 1) 0 3 (by omega) (by omega) (by omega)
          generalize odd l (KK + 1 + 1 + 1) 0 3 = v1 at *
          have HO1 := Lib.hid ho
          clear ho hs6
          go_wp2_with fail
          refine OD.out.mono ?_
          rintro e w7 ⟨rfl, hs7, hk7⟩
          have hk07 := hk06.then_ hk7
          have hrow7 := HROW6.out.kp hk7 hgneb
          have HROW7 := Lib.hid hrow7
          clear hrow7 hk7
          have PK := Lib.hid (pick_lit [0, 1, 5000000, 5000001] _ 4 b l (KK + 1 + 1 + 1 + 2) w7 hs7 (by omega) rfl rfl (by decide) (by decide))
          have ho2 := picked_ok (l := l) (k := KK + 1 + 1 + 1 + 2) (vals := [0, 1, 5000000, 5000001]) (by decide) (show ∀ x ∈ [0, 1, 5000000, 5000001], (-9223372036854775808 : Int) ≤ x ∧ x ≤ 9223372036854775807 by decide)
          generalize picked l (KK + 1 + 1 + 1 + 2) [0, 1, 5000000, 5000001] = v2 at *
          have HO2 := Lib.hid ho2
          clear ho2 hs7
          go_wp2_with fail
          refine PK.out.mono ?_
          rintro e w8 ⟨rfl, hs8, hk8⟩
          have hk08 := hk07.then_ hk8
          have hrow8 := HROW7.out.kp hk8 hgneb
          have hnl : i < ys.length := by have := HN.out; omega
          obtain ⟨_, _, _, _, hxc, hxf, _⟩ := row_bin hrow8 hnl
          obtain ⟨u2, hc2⟩ := hxc 2 (by omega)
          obtain ⟨u3, hc3⟩ := hxc 3 (by omega)
          have hf2 := hxf (i * 6 + 2)
          have hf3 := hxf (i * 6 + 3)
          have hrow9 := HU2.out _ hrow8 v1 v2
          have HROW9 := Lib.hid hrow9
          have hok9 := set_ok (i := i) HYOK.out (show Bin.ok { x with cnt := v1, oth := v2 } from ⟨HXOK.out.1, HXOK.out.2.1, HO1.out, HO2.out, HXOK.out.2.2.2.2.1, HXOK.out.2.2.2.2.2⟩)
          have HOK9 := Lib.hid hok9
          clear hxc hxf hrow9 hok9 hrow8 hk8
          go_wp2_with fail
          go_ret
          have hbg : b < g := by omega
          exact hfin.out _ _ _ (by simp) HROW9.out HOK9.out (by omega) ((hs8.setCell (p := ⟨g, _, none⟩) hbg _).setCell (p := ⟨g, _, none⟩) hbg _) ((hk08.setCell (p := ⟨g, _, none⟩) (.inr hwg) _).setCell (p := ⟨g, _, none⟩) (.inr hwg) _)
        · have OD := Lib.hid (odd_any (-5) 5 b l (KK + 1 + 1 + 1) w6 hs6 (by omega) (by omega) (by omega) (by omega))
          have ho := odd_ok l (KK + 1 + 1 + 1) (-5) 5 (by omega) (by omega) (by omega)
          generalize odd l (KK + 1 + 1 + 1) (-5) 5 = v1 at *
          have HO1 := Lib.hid ho
          clear ho hs6
          go_wp2_with fail
          refine OD.out.mono ?_
          rintro e w7 ⟨rfl, hs7, hk7⟩
          have hk07 := hk06.then_ hk7
          have hrow7 := HROW6.out.kp hk7 hgneb
          have HROW7 := Lib.hid hrow7
          clear hrow7 hk7
          have PK := Lib.hid (pick_lit [5, 1000000, 1000001] _ 3 b l (KK + 1 + 1 + 1 + 2) w7 hs7 (by omega) rfl rfl (by decide) (by decide))
          have ho2 := picked_ok (l := l) (k := KK + 1 + 1 + 1 + 2) (vals := [5, 1000000, 1000001]) (by decide) (show ∀ x ∈ [5, 1000000, 1000001], (-9223372036854775808 : Int) ≤ x ∧ x ≤ 9223372036854775807 by decide)
          generalize picked l (KK + 1 + 1 + 1 + 2) [5, 1000000, 1000001] = v2 at *
          have HO2 := Lib.hid ho2
          clear ho2 hs7
          go_wp2_with fail
          refine PK.out.mono ?_
          rintro e w8 ⟨rfl, hs8, hk8⟩
          have hk08 := hk07.then_ hk8
          have hrow8 := HROW7.out.kp hk8 hgneb
          have hnl : i < ys.length := by have := HN.out; omega
          obtain ⟨_, _, _, _, hxc, hxf, _⟩ := row_bin hrow8 hnl
          obtain ⟨u2, hc2⟩ := hxc 4 (by omega)
          obtain ⟨u3, hc3⟩ := hxc 5 (by omega)
          have hf2 := hxf (i * 6 + 4)
          have hf3 := hxf (i * 6 + 5)
          have hrow9 := HU3.out _ hrow8 v1 v2
          have HROW9 := Lib.hid hrow9
          have hok9 := set_ok (i := i) HYOK.out (show Bin.ok { x with low := v1, high := v2 } from ⟨HXOK.out.1, HXOK.out.2.1, HXOK.out.2.2.1, HXOK.out.2.2.2.1, HO1.out, HO2.out⟩)
          have HOK9 := Lib.hid hok9
          clear hxc hxf hrow9 hok9 hrow8 hk8
          go_wp2_with fail
          go_ret
          have hbg : b < g := by omega
          exact hfin.out _ _ _ (by simp) HROW9.out HOK9.out (by omega) ((hs8.setCell (p := ⟨g, _, none⟩) hbg _).setCell (p := ⟨g, _, none⟩) hbg _) ((hk08.setCell (p := ⟨g, _, none⟩) (.inr hwg) _).setCell (p := ⟨g, _, none⟩) (.inr hwg) _)
end Go.Proofs.YtcldaldfonfbgaaGreatDoor
