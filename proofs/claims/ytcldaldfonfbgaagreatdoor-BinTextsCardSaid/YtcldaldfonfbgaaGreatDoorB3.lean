/- BinsOf: as much as is needed of it: some bins, no more than samples. -/
import Derived.Test.YtcldaldfonfbgaaGreatDoorB2
import Derived.Test.YtcldaldfonfbgaaGreatDoorA5
set_option linter.unusedVariables false
set_option linter.unusedSimpArgs false
namespace Go.Proofs.YtcldaldfonfbgaaGreatDoor
open Go.RowKit

theorem Owns.setCell {α : Type} {E : Enc α} {e : TypeId} {w : World} {base : Nat} {A : Option Addr} {c : Nat} {xs : List α} (h : Owns E e w base A c xs) {p : Addr} (hp : p.block < base) (v : Value) : Owns E e (w.setCell p v) base A c xs :=
  h.kpb (S := Sole p.block) ((Kp.refl (Sole p.block) w).setCell (.inl rfl) v) (by rintro i rfl; exact hp)
theorem Owns.drewN {α : Type} {E : Enc α} {e : TypeId} {w : World} {base : Nat} {A : Option Addr} {c : Nat} {xs : List α} (h : Owns E e w base A c xs) (n : Nat) : Owns E e (w.drewN n) base A c xs := h.kp0 ((Kp.refl _ _).drewN n)
theorem Owns.alloc {α : Type} {E : Enc α} {e : TypeId} {w : World} {base : Nat} {A : Option Addr} {c : Nat} {xs : List α} (h : Owns E e w base A c xs) (o : Obj) : Owns E e (w.alloc o) base A c xs := h.kp0 ((Kp.refl _ _).alloc o)
theorem int_cell {w : World} {g o n : Nat} {xs : List Int} (h : Rd eInt w (some ⟨g, o, none⟩) n xs) (i : Nat) (hi : i < xs.length) : w.cell? ⟨g, o + i, none⟩ = some (.int .i64 (xs[i]'hi)) := by
  have hl := h.len
  obtain ⟨g', o', he, hc⟩ := h.at (by omega)
  injection he with he
  injection he with e1 e2
  subst e1; subst e2
  have := hc i 0 hi _ rfl
  simpa [eInt] using this
theorem smp_cells {w : World} {g o n : Nat} {xs : List Smp} (h : Rd eSmp w (some ⟨g, o, none⟩) n xs) (i : Nat) (hi : i < xs.length) :
    w.cell? ⟨g, o + i * 3, none⟩ = some (.int .i64 (xs[i]'hi).at_) ∧ w.cell? ⟨g, o + i * 3 + 1, none⟩ = some (.int .i64 (xs[i]'hi).val) ∧ w.cell? ⟨g, o + i * 3 + 2, none⟩ = some (.int .i64 (xs[i]'hi).q) := by
  have hl := h.len
  obtain ⟨g', o', he, hc⟩ := h.at (by omega)
  injection he with he
  injection he with e1 e2
  subst e1; subst e2
  exact ⟨hc i 0 hi _ rfl, hc i 1 hi _ rfl, hc i 2 hi _ rfl⟩

theorem int_at {w : World} {g o n : Nat} {xs : List Int} (h : Rd eInt w (some ⟨g, o, none⟩) n xs) (i : Nat) (hi : i < n) : ∃ x, x ∈ xs ∧ xs[i]? = some x ∧ w.cell? ⟨g, o + i, none⟩ = some (.int .i64 x) :=
  ⟨xs[i]'(by have := h.len; omega), List.getElem_mem _, List.getElem?_eq_getElem _, int_cell h i _⟩
theorem smp_at {w : World} {g o n : Nat} {xs : List Smp} (h : Rd eSmp w (some ⟨g, o, none⟩) n xs) (i : Nat) (hi : i < n) : ∃ x, x ∈ xs ∧ xs[i]? = some x ∧
    w.cell? ⟨g, o + i * 3, none⟩ = some (.int .i64 x.at_) ∧ w.cell? ⟨g, o + i * 3 + 1, none⟩ = some (.int .i64 x.val) ∧ w.cell? ⟨g, o + i * 3 + 2, none⟩ = some (.int .i64 x.q) :=
  ⟨xs[i]'(by have := h.len; omega), List.getElem_mem _, List.getElem?_eq_getElem _, smp_cells h i _⟩
theorem bin_at {w : World} {g o n : Nat} {xs : List Bin} (h : Rd eBin w (some ⟨g, o, none⟩) n xs) (i : Nat) (hi : i < n) : ∃ x, x ∈ xs ∧ xs[i]? = some x ∧
    w.cell? ⟨g, o + i * 6, none⟩ = some (.int .i64 x.frm) ∧ w.cell? ⟨g, o + i * 6 + 1, none⟩ = some (.int .i64 x.sum) ∧ w.cell? ⟨g, o + i * 6 + 2, none⟩ = some (.int .i64 x.cnt) ∧
    w.cell? ⟨g, o + i * 6 + 3, none⟩ = some (.int .i64 x.oth) ∧ w.cell? ⟨g, o + i * 6 + 4, none⟩ = some (.int .i64 x.low) ∧ w.cell? ⟨g, o + i * 6 + 5, none⟩ = some (.int .i64 x.high) :=
  ⟨xs[i]'(by have := h.len; omega), List.getElem_mem _, List.getElem?_eq_getElem _, bin_cells h i _⟩

set_option maxHeartbeats 2000000 in
theorem min_weak (A : Option Addr) (n c : Nat) (xs : List Int) (w : World) (hr : Rd eInt w A n xs) (hn : 0 < n) (hok : ∀ x ∈ xs, i64ok x) :
    Calls Tryz.prog 206 #[.slice A n c] w fun e w' => (∃ m, e = .returned (.int .i64 m) ∧ i64ok m) ∧ w = w' := by
  have hmx := hr.max
  obtain ⟨g, o, rfl, _⟩ := hr.at hn
  obtain ⟨m0, hm0, _, h0⟩ := int_at hr 0 hn
  have hm0 : Hid (i64ok m0) := hok _ hm0
  have HR := Lib.hid hr
  have HK := Lib.hid hok
  clear hr hok
  rw [Nat.add_zero] at h0
  go_enter Tryz.func206, Tryz.ntmps206
  go_wp2
  go_loopg [3, 4] (n - 1) (fun k s3 s4 wr => ∃ (i : Nat) (m : Int), i + k = n ∧ 1 ≤ i ∧ s4 = .int .i64 i ∧ s3 = .int .i64 m ∧ Hid (i64ok m) ∧ w = wr)
  case atStart => exact ⟨1, m0, by omega, by omega, rfl, rfl, hm0, rfl⟩
  case round =>
    obtain ⟨i, m, hi, h1, rfl, rfl, hm, rfl⟩ := hrel
    by_cases hin : i < n
    · obtain ⟨x, hx, _, hc⟩ := int_at HR.out i hin
      have hx : Hid (i64ok x) := HK.out _ hx
      go_wp2
      all_goals
        go_roundg (gk - 1)
        case measure => omega
        case rel => first | exact ⟨i + 1, m, by omega, by omega, by go_num, rfl, hm, rfl⟩ | exact ⟨i + 1, x, by omega, by omega, by go_num, rfl, hx, rfl⟩
    · go_wp2
      go_ret
      exact ⟨⟨m, rfl, hm.out⟩, rfl⟩
set_option maxHeartbeats 2000000 in
theorem max_weak (A : Option Addr) (n c : Nat) (xs : List Int) (w : World) (hr : Rd eInt w A n xs) (hn : 0 < n) (hok : ∀ x ∈ xs, i64ok x) :
    Calls Tryz.prog 207 #[.slice A n c] w fun e w' => (∃ m, e = .returned (.int .i64 m) ∧ i64ok m) ∧ w = w' := by
  have hmx := hr.max
  obtain ⟨g, o, rfl, _⟩ := hr.at hn
  obtain ⟨m0, hm0, _, h0⟩ := int_at hr 0 hn
  have hm0 : Hid (i64ok m0) := hok _ hm0
  have HR := Lib.hid hr
  have HK := Lib.hid hok
  clear hr hok
  rw [Nat.add_zero] at h0
  go_enter Tryz.func207, Tryz.ntmps207
  go_wp2
  go_loopg [3, 4] (n - 1) (fun k s3 s4 wr => ∃ (i : Nat) (m : Int), i + k = n ∧ 1 ≤ i ∧ s4 = .int .i64 i ∧ s3 = .int .i64 m ∧ Hid (i64ok m) ∧ w = wr)
  case atStart => exact ⟨1, m0, by omega, by omega, rfl, rfl, hm0, rfl⟩
  case round =>
    obtain ⟨i, m, hi, h1, rfl, rfl, hm, rfl⟩ := hrel
    by_cases hin : i < n
    · obtain ⟨x, hx, _, hc⟩ := int_at HR.out i hin
      have hx : Hid (i64ok x) := HK.out _ hx
      go_wp2
      all_goals
        go_roundg (gk - 1)
        case measure => omega
        case rel => first | exact ⟨i + 1, m, by omega, by omega, by go_num, rfl, hm, rfl⟩ | exact ⟨i + 1, x, by omega, by omega, by go_num, rfl, hx, rfl⟩
    · go_wp2
      go_ret
      exact ⟨⟨m, rfl, hm.out⟩, rfl⟩

theorem ety_Bin : Ety Tryz.prog 39 6 48 := ety_mk (z := .agg #[.int .i64 0, .int .i64 0, .int .i64 0, .int .i64 0, .int .i64 0, .int .i64 0]) (by kernel_rfl) rfl
theorem ety_Int : Ety Tryz.prog 3 1 8 := ety_mk (z := .int .i64 0) (by kernel_rfl) rfl
theorem slot_bd (a step : Int) (h0 : 0 ≤ a) (h1 : 1 ≤ step) : 0 ≤ a / step * step ∧ a / step * step ≤ a ∧ a < a / step * step + step := by
  have h2 := Int.mul_ediv_add_emod a step
  have h3 := Int.emod_nonneg a (show step ≠ 0 by omega)
  have h4 := Int.emod_lt_of_pos a (show 0 < step by omega)
  have h5 : 0 ≤ a / step := Int.ediv_nonneg h0 (by omega)
  have h6 : 0 ≤ a / step * step := Int.mul_nonneg h5 (by omega)
  rw [Int.mul_comm] at h2
  omega

theorem Kp.selfCell {b : Nat} {w w' : World} (h : Kp (Sole b) w w') {p : Addr} (hp : p.block = b) (v : Value) : Kp (Sole b) w (w'.setCell p v) := h.setCell (.inl hp) v
theorem i64_of {x : Int} (h0 : -1000000000000000 ≤ x) (h1 : x ≤ 1000000000000000) : i64ok x := ⟨by omega, by omega⟩
theorem bin_ok {f s c o l h : Int} (h1 : i64ok f) (h2 : i64ok s) (h3 : i64ok c) (h4 : i64ok o) (h5 : i64ok l) (h6 : i64ok h) : Bin.ok ⟨f, s, c, o, l, h⟩ := ⟨h1, h2, h3, h4, h5, h6⟩

set_option maxHeartbeats 4000000 in
set_option maxRecDepth 100000 in
theorem binsOf_weak (A : Option Addr) (n c : Nat) (xs : List Smp) (step : Int) (w : World) (hr : Rd eSmp w A n xs) (hn : n ≤ 1000) (h1 : 1 ≤ step) (h2 : step ≤ 86400000)
    (hok : ∀ x ∈ xs, (0 ≤ x.at_ ∧ x.at_ ≤ 1000000000) ∧ i64ok x.val ∧ i64ok x.q) :
    Calls Tryz.prog 86 #[.slice A n c, .int .i64 step] w fun e w' => ∃ A' c' ys, e = .returned (.slice A' ys.length c') ∧ Owns eBin 39 w' w.heap.size A' c' ys ∧ (ys.length ≤ n ∧ ∀ y ∈ ys, y.ok) ∧ Kp Non w w' := by
  have HR := Lib.hid hr
  have HK := Lib.hid hok
  clear hr hok
  go_enter Tryz.func86, Tryz.ntmps86
  go_wp2
  go_loopg [5, 6] n (fun k s5 s6 wr => ∃ (i : Nat) (A' : Option Addr) (c' m : Nat) (ys : List Bin), i + k = n ∧ s6 = .int .i64 i ∧ s5 = .slice A' m c' ∧ Hid (ys.length = m ∧ ∀ y ∈ ys, y.ok) ∧ m ≤ i ∧
    Owns eBin 39 wr w.heap.size A' c' ys ∧ Kp Non w wr)
  case atStart => exact ⟨0, none, 0, 0, [], by omega, rfl, rfl, ⟨rfl, by simp⟩, by omega, Owns.nil _ _ _ _, Kp.refl _ _⟩
  case round =>
    obtain ⟨i, A', c', m, ys, hi, rfl, rfl, hys, hm, hown, hk⟩ := hrel
    have HO := Lib.hid hown
    clear hown
    by_cases hin : i < n
    · have hrd := HR.out.kp0 hk
      obtain ⟨g, o, rfl, _⟩ := hrd.at (by omega)
      obtain ⟨x, hx, hxi, c0, c1, c2⟩ := smp_at hrd i hin
      obtain ⟨⟨b1, b2⟩, _, _⟩ := HK.out x hx
      obtain ⟨f1, f2, f3⟩ := slot_bd x.at_ step b1 h1
      clear hrd hx c1 c2
      obtain ⟨wo, hwo⟩ : ∃ wo, wo = wr := ⟨_, rfl⟩
      subst hwo
      obtain ⟨ko, hko⟩ : ∃ ko, ko = gk := ⟨_, rfl⟩
      subst hko
      go_wp2
      generalize x.at_ / step * step = f at *
      go_loopg [6, 8] (n - i) (fun k s6 s8 wr => ∃ (i2 : Nat) (A2 : Option Addr) (c2 m2 : Nat) (gs : List Int) (oth : Int), i2 + k = n ∧ i ≤ i2 ∧ s6 = .int .i64 i2 ∧ s8 = .slice A2 m2 c2 ∧ Hid (gs.length = m2 ∧ ∀ z ∈ gs, i64ok z) ∧ m2 ≤ i2 ∧ 0 ≤ oth ∧ oth ≤ i2 ∧
        wr.heap[wo.heap.size]? = some (.cells #[.int .i64 f, .int .i64 0, .int .i64 0, .int .i64 oth, .int .i64 0, .int .i64 0] 39 (0, 0)) ∧ Owns eInt 3 wr (wo.heap.size + 1) A2 c2 gs ∧ Kp Non wo wr)
      case atStart => exact ⟨i, none, 0, 0, [], 0, by omega, by omega, rfl, rfl, ⟨rfl, by simp⟩, by omega, by omega, by omega, blk_new _ _ _, Owns.nil _ _ _ _, (Kp.refl _ _).alloc _⟩
      case round =>
        obtain ⟨i2, A2, c2, m2, gs, oth, hi2, hle, rfl, rfl, hgs, hm2, o1, o2, hb, hown2, hk2⟩ := hrel
        have HO2 := Lib.hid hown2
        have HB := Lib.hid hb
        have d0 := blk_cell hb 0 rfl
        have d3 := blk_cell hb 3 rfl
        have e3 := blk_free hb 3
        clear hown2 hb
        have hsp : (∃ y : Smp, i2 < n ∧ wr.cell? ⟨g, o + i2 * 3, none⟩ = some (.int .i64 y.at_) ∧ wr.cell? ⟨g, o + i2 * 3 + 1, none⟩ = some (.int .i64 y.val) ∧ wr.cell? ⟨g, o + i2 * 3 + 2, none⟩ = some (.int .i64 y.q) ∧
            y.at_ < f + step ∧ (0 ≤ y.at_ ∧ y.at_ ≤ 1000000000) ∧ Hid (i64ok y.val)) ∨
            (i < i2 ∧ ((∃ z, i2 < n ∧ wr.cell? ⟨g, o + i2 * 3, none⟩ = some (.int .i64 z) ∧ f + step ≤ z) ∨ n ≤ i2)) := by
          by_cases hin2 : i2 < n
          · have hrd := HR.out.kp0 (hk.then_ hk2)
            obtain ⟨y, hy, hyi, c0', c1', c2'⟩ := smp_at hrd i2 hin2
            obtain ⟨y12, yv, _⟩ := HK.out y hy
            by_cases hlt : y.at_ < f + step
            · exact .inl ⟨y, hin2, c0', c1', c2', hlt, y12, yv⟩
            · refine .inr ⟨?_, .inl ⟨_, hin2, c0', by omega⟩⟩
              rcases Nat.lt_or_ge i i2 with h | h
              · exact h
              · obtain rfl : i = i2 := by omega
                rw [hxi] at hyi
                injection hyi with hyi
                subst hyi
                omega
          · exact .inr ⟨by omega, .inr (by omega)⟩
        rcases hsp with ⟨y, hin2, c0', c1', c2', hlt, ⟨y1, y2⟩, HY⟩ | ⟨hlt2, hex⟩
        · cases hq : y.q == 0
          · go_wp2_with fail
            go_quiet (fail)
            go_wp2_with fail
            go_roundg (gk - 1)
            case measure => omega
            case rel =>
              refine ⟨i2 + 1, A2, c2, m2, gs, oth + 1, by omega, by omega, by go_num, rfl, hgs, by omega, by omega, by omega, ?_, ?_, ?_⟩
              · exact blk_set HB.out 3 _
              · exact (HO2.out.drewN _).setCell (p := ⟨wo.heap.size, 3, none⟩) (Nat.lt_succ_self _) _
              · exact (hk2.drewN _).setCell (p := ⟨wo.heap.size, 3, none⟩) (.inr (Nat.le_refl _)) _
          · have hbl := blk_lt HB.out
            go_wp2_with fail
            go_quiet (fail)
            go_wp2_with (at_builtin; refine wp_append1 rfl _ _ 22 3 rfl eInt 8 ety_Int Tryz.underlying22 (wo.heap.size + 1) A2 c2 m2 gs y.val _ _ _ hgs.out.1 rfl rfl ?c0 ?c1 ?c2 (by omega) (by omega) ?c3 ?c4)
            case c0 => simp
            case c1 => rfl
            case c2 => exact HO2.out
            case c3 => have := hbl; simp; omega
            case c4 =>
            intro A3 c3 w3 hown3 hk3 hg3
            have HO3 := Lib.hid hown3
            have HK3 := Lib.hid hk3
            clear hown3 hk3 hg3
            go_wp2_with fail
            go_roundg (gk - 1)
            case measure => omega
            case rel =>
              refine ⟨i2 + 1, A3, c3, m2 + 1, gs ++ [y.val], oth, by omega, by omega, by go_num, rfl, ?_, by omega, by omega, by omega, ?_, HO3.out, ?_⟩
              · exact ⟨by simp [hgs.out.1], fun z hz => by
                  rcases List.mem_append.1 hz with hz | hz
                  · exact hgs.out.2 z hz
                  · rw [List.mem_singleton.1 hz]; exact HY.out⟩
              · exact HK3.out.obj (show ¬ wo.heap.size + 1 ≤ wo.heap.size by omega) HB.out
              · exact Kp.own (hk2.drewN _) HK3.out (by omega)
        · rcases hex with ⟨z, hin2, cz, hz⟩ | hin2
          rotate_left
          have hd : decide (i2 < n) = false := by simp; omega
          rotate_left
          all_goals
            have hbl := blk_lt HB.out
            have hz := HO2.out.rd
            rw [hgs.out.1] at hz
            have HZ := Lib.hid hz
            clear hz
            go_wp2_with fail
            go_quiet (fail)
            go_wp2_with fail
            obtain ⟨wl, hwl⟩ : ∃ wl, wl = wr := ⟨_, rfl⟩
            subst hwl
            go_loopg [63] m2 (fun k s63 wr => ∃ (j : Nat) (s : Int), j + k = m2 ∧ s63 = .int .i64 j ∧ Hid (i64ok s) ∧
              wr.heap[wo.heap.size]? = some (.cells #[.int .i64 f, .int .i64 s, .int .i64 0, .int .i64 oth, .int .i64 0, .int .i64 0] 39 (0, 0)) ∧ Kp (Sole wo.heap.size) wl wr)
            case atStart => exact ⟨0, 0, by omega, rfl, ⟨by omega, by omega⟩, HB.out, (Kp.refl _ _).drewN _⟩
            case round =>
              obtain ⟨j, s, hj, rfl, hs, hb3, hk3⟩ := hrel
              have HB3 := Lib.hid hb3
              have d0 := blk_cell hb3 0 rfl
              have d1 := blk_cell hb3 1 rfl
              have d2 := blk_cell hb3 2 rfl
              have d3 := blk_cell hb3 3 rfl
              have d4 := blk_cell hb3 4 rfl
              have d5 := blk_cell hb3 5 rfl
              have e1 := blk_free hb3 1
              have e2 := blk_free hb3 2
              have e4 := blk_free hb3 4
              have e5 := blk_free hb3 5
              clear hb3
              by_cases hjm : j < m2
              · have hz3 := HZ.out.kp hk3 (fun a ha => by have := (HO2.out.block a ha).1; exact fun h => by have : a.block = wo.heap.size := h; omega)
                obtain ⟨g2, o2, rfl, _⟩ := hz3.at (by omega)
                obtain ⟨z2, _, _, cz2⟩ := int_at hz3 j hjm
                have HZ3 := Lib.hid hz3
                clear hz3
                go_wp2_with fail
                go_roundg (gk - 1)
                case measure => omega
                case rel =>
                  refine ⟨j + 1, wrap64 (s + z2), by omega, by go_num, wrap64_ok _, blk_set HB3.out 1 _, hk3.setCell (p := ⟨wo.heap.size, 1, none⟩) (.inl rfl) _⟩
              · obtain rfl : m2 = j := by omega
                have hkw : Kp Non wo wr := hk2.trans hk3 (fun i hi => .inr (by cases hi; exact Nat.le_refl _))
                by_cases hm0 : m2 = 0
                · have hb0 : decide ((0 : Int) < (m2 : Int)) = false := by simp; omega
                  go_wp2_with (at_builtin; refine wp_append1 rfl _ _ 27 39 rfl eBin 48 ety_Bin Tryz.underlying27 w.heap.size A' c' m ys ⟨f, s, 0, oth, 0, 0⟩ _ _ _ hys.out.1 rfl rfl ?c0 ?c1 ?c2 (by omega) (by omega) ?c3 ?c4)
                  case c0 => simp
                  case c1 => rfl
                  case c2 => exact HO.out.kp0 (by repeat (first | exact hkw | refine Kp.setCell ?_ (.inr (Nat.le_refl _)) _ | apply Kp.alloc | apply Kp.drewN))
                  case c3 => have h1 := hk.size; have h2 := hkw.size; simp; omega
                  case c4 =>
                  intro A5 c5 w5 ho5 hk5 hg5
                  have hk05 := Kp.own (hk.then_ (show Kp Non wo _ from by repeat (first | exact hkw | refine Kp.setCell ?_ (.inr (Nat.le_refl _)) _ | apply Kp.alloc | apply Kp.drewN))) hk5 (Nat.le_refl _)
                  have HO5 := Lib.hid ho5
                  clear ho5 hk5 hg5
                  go_wp2_with fail
                  go_roundg (n - i2)
                  case measure => omega
                  case rel =>
                    refine ⟨i2, A5, c5, m + 1, ys ++ [⟨f, s, 0, oth, 0, 0⟩], by omega, rfl, rfl, ⟨by simp [hys.out.1], fun z hz => ?_⟩, by omega, HO5.out, hk05⟩
                    rcases List.mem_append.1 hz with hz | hz
                    · exact hys.out.2 z hz
                    · rw [List.mem_singleton.1 hz]
                      exact bin_ok (i64_of (by omega) (by omega)) hs.out (i64_of (by omega) (by omega)) (i64_of (by omega) (by omega)) (i64_of (by omega) (by omega)) (i64_of (by omega) (by omega))
                · have hb0 : decide ((0 : Int) < (m2 : Int)) = true := by simp; omega
                  have hzz : ∀ W, Kp (Sole wo.heap.size) wl W → Rd eInt W A2 m2 gs := fun W hW => HZ.out.kp hW (fun a ha h => by have h1 := (HO2.out.block a ha).1; have h2 : a.block = wo.heap.size := h; omega)
                  have HZZ := Lib.hid hzz
                  clear hzz
                  go_wp2_with fail
                  refine (min_weak A2 m2 c2 gs _ (HZZ.out _ (Kp.selfCell hk3 rfl _)) (by omega) hgs.out.2).mono ?_
                  rintro e w' ⟨⟨mn, rfl, hmn⟩, rfl⟩
                  go_wp2_with fail
                  refine (max_weak A2 m2 c2 gs _ (HZZ.out _ (Kp.selfCell hk3 rfl _)) (by omega) hgs.out.2).mono ?_
                  rintro e w' ⟨⟨mx, rfl, hmx⟩, rfl⟩
                  go_wp2_with (at_builtin; refine wp_append1 rfl _ _ 27 39 rfl eBin 48 ety_Bin Tryz.underlying27 w.heap.size A' c' m ys ⟨f, s, (m2 : Int), oth, mn, mx⟩ _ _ _ hys.out.1 rfl rfl ?c0 ?c1 ?c2 (by omega) (by omega) ?c3 ?c4)
                  case c0 => simp
                  case c1 => rfl
                  case c2 => exact HO.out.kp0 (by repeat (first | exact hkw | refine Kp.setCell ?_ (.inr (Nat.le_refl _)) _ | apply Kp.alloc | apply Kp.drewN))
                  case c3 => have h1 := hk.size; have h2 := hkw.size; simp; omega
                  case c4 =>
                  intro A5 c5 w5 ho5 hk5 hg5
                  have hk05 := Kp.own (hk.then_ (show Kp Non wo _ from by repeat (first | exact hkw | refine Kp.setCell ?_ (.inr (Nat.le_refl _)) _ | apply Kp.alloc | apply Kp.drewN))) hk5 (Nat.le_refl _)
                  have HO5 := Lib.hid ho5
                  clear ho5 hk5 hg5
                  go_wp2_with fail
                  go_roundg (n - i2)
                  case measure => omega
                  case rel =>
                    refine ⟨i2, A5, c5, m + 1, ys ++ [⟨f, s, (m2 : Int), oth, mn, mx⟩], by omega, rfl, rfl, ⟨by simp [hys.out.1], fun z hz => ?_⟩, by omega, HO5.out, hk05⟩
                    rcases List.mem_append.1 hz with hz | hz
                    · exact hys.out.2 z hz
                    · rw [List.mem_singleton.1 hz]
                      exact bin_ok (i64_of (by omega) (by omega)) hs.out (i64_of (by omega) (by omega)) (i64_of (by omega) (by omega)) hmn hmx
    · go_wp2
      go_ret
      have hy := hys.out.1
      subst hy
      exact ⟨A', c', ys, rfl, HO.out, ⟨by omega, hys.out.2⟩, hk⟩
end Go.Proofs.YtcldaldfonfbgaaGreatDoor
