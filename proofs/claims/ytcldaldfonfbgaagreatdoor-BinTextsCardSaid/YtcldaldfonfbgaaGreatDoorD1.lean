/- Numbers with blanks between; the lines of bins. -/
import Derived.Test.YtcldaldfonfbgaaGreatDoorC2
import Derived.Test.YtcldaldfonfbgaaGreatDoorB3
import Derived.Lib.ItoaLen
set_option linter.unusedVariables false
set_option linter.unusedSimpArgs false
namespace Go.Proofs.YtcldaldfonfbgaaGreatDoor
open Go.RowKit

def numsB (xs : List Int) : List UInt8 := Lib.join (xs.map Lib.itoa) [32]
def binL (x : Bin) : List UInt8 := numsB [x.frm, x.sum, x.cnt, x.oth, x.low, x.high] ++ [10]
def binLines (xs : List Bin) : List UInt8 := xs.flatMap binL
def bs (l : List UInt8) : ByteArray := ⟨l.toArray⟩

theorem bs_append (a b : List UInt8) : bs a ++ bs b = bs (a ++ b) := by
  apply ByteArray.ext
  simp [bs, ByteArray.data_append]
theorem bs_size (a : List UInt8) : (bs a).size = a.length := by simp [bs, ByteArray.size]
theorem bs_list (a : List UInt8) : (bs a).data.toList = a := by simp [bs]
theorem numsB_len (xs : List Int) (h : ∀ x ∈ xs, i64ok x) : (numsB xs).length ≤ 22 * xs.length := by
  unfold numsB
  cases xs with
  | nil => simp [Lib.join_nil]
  | cons x xs =>
    rw [List.map_cons, Lib.join_length]
    have hl : ∀ ys : List Int, (∀ y ∈ ys, i64ok y) → Lib.lens (ys.map Lib.itoa) ≤ 21 * ys.length := by
      intro ys hy
      induction ys with
      | nil => simp [Lib.lens]
      | cons y ys ih =>
        have h1 := ih (fun z hz => hy z (List.mem_cons_of_mem _ hz))
        have h2 := Lib.itoa_length_le y (hy y List.mem_cons_self).1 (hy y List.mem_cons_self).2
        simp [Lib.lens] at h1 ⊢
        omega
    have := hl (x :: xs) h
    simp at this ⊢
    omega
theorem binL_len (x : Bin) (h : x.ok) : (binL x).length ≤ 133 := by
  have := numsB_len [x.frm, x.sum, x.cnt, x.oth, x.low, x.high] (by
    intro y hy
    obtain ⟨h1, h2, h3, h4, h5, h6⟩ := h
    simp at hy
    rcases hy with rfl | rfl | rfl | rfl | rfl | rfl <;> assumption)
  simp [binL] at this ⊢
  omega
theorem binLines_len (xs : List Bin) (h : ∀ x ∈ xs, x.ok) : (binLines xs).length ≤ 133 * xs.length := by
  induction xs with
  | nil => simp [binLines]
  | cons x xs ih =>
    have h1 := ih (fun z hz => h z (List.mem_cons_of_mem _ hz))
    have h2 := binL_len x (h x List.mem_cons_self)
    simp [binLines] at h1 ⊢
    omega

theorem Owns.cap {α : Type} {E : Enc α} {e : TypeId} {w : World} {base : Nat} {A : Option Addr} {c : Nat} {xs : List α} (h : Owns E e w base A c xs) : xs.length ≤ c := by
  rcases h.2 with ⟨_, hn⟩ | ⟨g, cap, cur, hv, hb, hg, hc, _⟩
  · omega
  · injection hv with h1 h2 h3
    omega
theorem ety_Str : Ety Tryz.prog 9 1 16 := ety_mk (z := .string ⟨#[]⟩) (by kernel_rfl) rfl

def itoaS (n : Int) : ByteArray := bs (Lib.itoa n)
theorem strs_cells {w : World} {g o n : Nat} {xs : List ByteArray} (h : Rd eStr w (some ⟨g, o, none⟩) n xs) (j : Nat) (x : ByteArray) (hx : xs[j]? = some x) : w.cell? ⟨g, o + j, none⟩ = some (.string x) := by
  obtain ⟨hj, hx⟩ := List.getElem?_eq_some_iff.1 hx
  obtain ⟨g', o', he, hc⟩ := h.at (by have := h.len; omega)
  injection he with he
  injection he with e1 e2
  subst e1; subst e2
  have := hc j 0 hj _ rfl
  rw [hx] at this
  simpa [eStr] using this

set_option maxHeartbeats 2000000 in
set_option maxRecDepth 100000 in
theorem numbers_any (A : Option Addr) (n c : Nat) (xs : List Int) (w : World) (hr : Rd eInt w A n xs) (he : Env w) (hn : n ≤ 1000) (hok : ∀ x ∈ xs, i64ok x) :
    Calls Tryz.prog 98 #[.slice A n c] w fun e w' => e = .returned (.string (bs (numsB xs))) ∧ Kp Non w w' := by
  have HR := Lib.hid hr
  have HK := Lib.hid hok
  have HN := Lib.hid (numsB_len xs hok)
  clear hr hok
  go_enter Tryz.func98, Tryz.ntmps98
  go_wp2
  go_loopg [3, 8] n (fun k s3 s8 wr => ∃ (i : Nat) (A' : Option Addr) (c' : Nat), i + k = n ∧ s8 = .int .i64 i ∧ s3 = .slice A' i c' ∧ Owns eStr 9 wr w.heap.size A' c' ((xs.map itoaS).take i) ∧ Kp Non w wr)
  case atStart => exact ⟨0, none, 0, by omega, rfl, rfl, Owns.nil _ _ _ _, Kp.refl _ _⟩
  case round =>
    obtain ⟨i, A', c', hi, rfl, rfl, hown, hk⟩ := hrel
    have HO := Lib.hid hown
    have hlen : ((xs.map itoaS).take i).length = i := by have := HR.out.len; simp; omega
    have HL := Lib.hid hlen
    clear hown hlen
    by_cases hin : i < n
    · have hrd := HR.out.kp0 hk
      obtain ⟨g, o, rfl, _⟩ := hrd.at (by omega)
      obtain ⟨x, hx, hxi, hc⟩ := int_at hrd i hin
      have HX := Lib.hid hxi
      have hx := HK.out x hx
      clear hrd hxi
      go_wp2_with fail
      refine (itoa_any x hx _ (he.kp0 hk)).mono ?_
      rintro e w1 ⟨rfl, hk1⟩
      go_wp2_with (at_builtin; refine wp_append1 rfl _ _ 166 9 rfl eStr 16 ety_Str Tryz.underlying166 w.heap.size A' c' i _ (itoaS x) _ _ _ HL.out rfl rfl ?c0 ?c1 ?c2 (by omega) (by omega) ?c3 ?c4)
      case c0 => simp
      case c1 => rfl
      case c2 => exact HO.out.kp0 hk1
      case c3 => have h1 := hk.size; have h2 := hk1.size; omega
      case c4 =>
      intro A5 c5 w5 ho5 hk5 hg5
      have hk05 := Kp.own (hk.then_ hk1) hk5 (Nat.le_refl _)
      have HO5 := Lib.hid ho5
      clear ho5 hk5 hg5
      go_wp2_with fail
      go_roundg (gk - 1)
      case measure => omega
      case rel =>
        refine ⟨i + 1, A5, c5, by omega, by go_num, rfl, ?_, hk05⟩
        have : (xs.map itoaS).take (i + 1) = (xs.map itoaS).take i ++ [itoaS x] := by rw [List.take_add_one, List.getElem?_map, HX.out]; simp
        rw [this]
        exact HO5.out
    · obtain rfl : i = n := by omega
      have hall : (xs.map itoaS).take i = xs.map itoaS := by rw [List.take_of_length_le (by have := HR.out.len; rw [List.length_map]; omega)]
      have HA := Lib.hid hall
      clear hall
      by_cases h0 : i = 0
      · have hx0 : xs = [] := List.eq_nil_of_length_eq_zero (by have := HR.out.len; omega)
        subst hx0
        subst h0
        go_wp2_with fail
        refine (Tryz.strings_Join_none _ _ _ _).mono ?_
        rintro e w' ⟨rfl, rfl⟩
        go_wp2_with fail
        go_ret
        exact ⟨rfl, hk⟩
      · have ho := HO.out
        rw [HA.out] at ho
        have hl2 : (xs.map itoaS).length = i := by have := HL.out; rwa [HA.out] at this
        have hrd := ho.rd
        rw [hl2] at hrd
        obtain ⟨g, o, rfl, _⟩ := hrd.at (by omega)
        have hcap := ho.cap
        have JN := Tryz.strings_Join g o c' (xs.map itoaS) (bs [32]) wr (fun j x hx => strs_cells hrd j x hx) (ho.block _ rfl).2.1 (by rw [hl2]; omega) hcap (by
          have h1 := HN.out
          have h2 : Lib.join ((xs.map itoaS).map (·.data.toList)) (bs [32]).data.toList = numsB xs := by simp [numsB, itoaS, bs, Function.comp_def]
          rw [h2]; have := HR.out.len; omega)
        rw [hl2, show Lib.join ((xs.map itoaS).map (·.data.toList)) (bs [32]).data.toList = numsB xs by simp [numsB, itoaS, bs, Function.comp_def]] at JN
        have JJ := Lib.hid JN
        clear JN ho hrd hl2
        go_wp2_with fail
        refine JJ.out.mono ?_
        rintro e w' ⟨rfl, hb⟩
        have hk2 := hk.then_ (Kp.of_below hb)
        clear hb
        go_wp2_with fail
        go_ret
        exact ⟨rfl, hk2⟩

set_option maxHeartbeats 2000000 in
set_option maxRecDepth 100000 in
theorem binLines_any (A : Option Addr) (n c : Nat) (xs : List Bin) (w : World) (hr : Rd eBin w A n xs) (he : Env w) (hn : n ≤ 6000) (hok : ∀ x ∈ xs, x.ok) :
    Calls Tryz.prog 15 #[.slice A n c] w fun e w' => e = .returned (.string (bs (binLines xs))) ∧ Kp Non w w' := by
  have HR := Lib.hid hr
  have HK := Lib.hid hok
  clear hr hok
  go_enter Tryz.func15, Tryz.ntmps15
  go_wp2
  go_loopg [3, 8] n (fun k s3 s8 wr => ∃ (i : Nat) (t : ByteArray), i + k = n ∧ s8 = .int .i64 i ∧ s3 = .string t ∧ Hid (t = bs (binLines (xs.take i))) ∧ t.size ≤ 133 * i ∧ Kp Non w wr)
  case atStart => exact ⟨0, ⟨#[]⟩, by omega, rfl, rfl, rfl, Nat.le_refl _, Kp.refl _ _⟩
  case round =>
    obtain ⟨i, t, hi, rfl, rfl, ht, hsz, hk⟩ := hrel
    by_cases hin : i < n
    · have hrd := HR.out.kp0 hk
      obtain ⟨g, o, rfl, _⟩ := hrd.at (by omega)
      obtain ⟨x, hx, hxi, c0, c1, c2, c3, c4, c5⟩ := bin_at hrd i hin
      have HX := Lib.hid hxi
      have HXK := Lib.hid (HK.out x hx)
      have NB : Hid (∀ W g, g = W.heap.size → Kp Non w W → Calls Tryz.prog 98 #[.slice (some ⟨g, 0, none⟩) 6 6] (W.alloc (.cells #[.int .i64 x.frm, .int .i64 x.sum, .int .i64 x.cnt, .int .i64 x.oth, .int .i64 x.low, .int .i64 x.high] 3))
          fun e w' => e = .returned (.string (bs (numsB [x.frm, x.sum, x.cnt, x.oth, x.low, x.high]))) ∧ Kp Non (W.alloc (.cells #[.int .i64 x.frm, .int .i64 x.sum, .int .i64 x.cnt, .int .i64 x.oth, .int .i64 x.low, .int .i64 x.high] 3)) w') := by
        intro W g hg hW
        subst hg
        refine numbers_any (some ⟨W.heap.size, 0, none⟩) 6 6 [x.frm, x.sum, x.cnt, x.oth, x.low, x.high] _ ⟨rfl, reads_new W _ 3 6 1 rfl (by unfold maxLen; omega)⟩ ((he.kp0 hW).alloc _) (by omega) ?_
        obtain ⟨h1, h2, h3, h4, h5, h6⟩ := HK.out x hx
        intro y hy
        simp at hy
        rcases hy with rfl | rfl | rfl | rfl | rfl | rfl <;> assumption
      clear hrd hxi hx
      go_wp2_with fail
      refine (NB.out _ _ (by simp) (hk.alloc _)).mono ?_
      rintro e w1 ⟨rfl, hk1⟩
      have hbl := binL_len x HXK.out
      have HE : Hid (binL x = numsB [x.frm, x.sum, x.cnt, x.oth, x.low, x.high] ++ [10]) := rfl
      have hsz2 : (bs (numsB [x.frm, x.sum, x.cnt, x.oth, x.low, x.high])).size ≤ 132 := by
        rw [HE.out, List.length_append] at hbl
        simp [bs] at hbl ⊢
        exact hbl
      generalize numsB [x.frm, x.sum, x.cnt, x.oth, x.low, x.high] = nb at *
      have hk01 := hk.then_ (((Kp.refl Non wr).alloc (.cells #[.int .i64 x.frm, .int .i64 x.sum, .int .i64 x.cnt, .int .i64 x.oth, .int .i64 x.low, .int .i64 x.high] 39)).alloc (.cells #[.int .i64 x.frm, .int .i64 x.sum, .int .i64 x.cnt, .int .i64 x.oth, .int .i64 x.low, .int .i64 x.high] 3))
      have hk02 := hk01.then_ hk1
      clear hk01 hk1
      go_wp2_with fail
      go_roundg (gk - 1)
      case measure => omega
      case rel =>
        have h10 : (⟨#[10]⟩ : ByteArray) = bs [10] := rfl
        have hx1 : binLines (xs.take (i + 1)) = binLines (xs.take i) ++ (nb ++ [10]) := by
          rw [List.take_add_one, HX.out, ← HE.out]; simp [binLines]
        refine ⟨i + 1, _, by omega, by go_num, rfl, ?_, ?_, hk02⟩
        · rw [ht.out, h10, bs_append, bs_append, hx1]; exact rfl
        · have hx2 := hk02.size
          rw [HE.out, List.length_append] at hbl
          rw [h10, bs_append, ByteArray.size_append, bs_size]
          simp at hbl ⊢
          omega
    · obtain rfl : i = n := by omega
      have hall : xs.take i = xs := List.take_of_length_le (by have := HR.out.len; omega)
      rw [hall] at ht
      go_wp2_with fail
      go_ret
      exact ⟨ret_str ht.out, hk⟩
end Go.Proofs.YtcldaldfonfbgaaGreatDoor
