/- Numbers and lines: the plain laws. -/
import Derived.Test.YtcldaldfonfbgaaGreatDoorD1
import Derived.Lib.SplitLaws
import Derived.Lib.AtoiAllCases
set_option linter.unusedVariables false
set_option linter.unusedSimpArgs false
namespace Go.Proofs.YtcldaldfonfbgaaGreatDoor
open Go.RowKit

/-! ### Cut at each byte c -/
def sp (c : UInt8) : List UInt8 → List (List UInt8)
  | [] => [[]]
  | x :: r => if x = c then [] :: sp c r else match sp c r with
    | [] => [[x]]
    | l :: ls => (x :: l) :: ls

theorem sp_ne (c : UInt8) (l : List UInt8) : sp c l ≠ [] := by
  cases l with
  | nil => simp [sp]
  | cons x r =>
    unfold sp
    split
    · simp
    · split <;> simp

theorem sp_none (c : UInt8) : ∀ l : List UInt8, c ∉ l → sp c l = [l]
  | [], _ => rfl
  | x :: r, h => by
    have h1 : x ≠ c := fun e => h (by simp [e])
    have h2 := sp_none c r (fun e => h (List.mem_cons_of_mem _ e))
    rw [sp, if_neg h1, h2]

theorem sp_hit (c : UInt8) : ∀ a b : List UInt8, c ∉ a → sp c (a ++ c :: b) = a :: sp c b
  | [], b, _ => by simp [sp]
  | x :: r, b, h => by
    have h1 : x ≠ c := fun e => h (by simp [e])
    have h2 := sp_hit c r b (fun e => h (List.mem_cons_of_mem _ e))
    rw [List.cons_append, sp, if_neg h1, h2]

theorem index_cases (c : UInt8) : ∀ l : List UInt8, (Lib.index l [c] = -1 ∧ c ∉ l) ∨ (∃ a b, l = a ++ c :: b ∧ c ∉ a ∧ Lib.index l [c] = a.length)
  | [] => .inl ⟨rfl, by simp⟩
  | x :: r => by
    by_cases hx : x = c
    · subst hx
      exact .inr ⟨[], r, rfl, by simp, by simp [Lib.index]⟩
    · have hp : ([c].isPrefixOf (x :: r)) = false := by simp [List.isPrefixOf]; exact fun e => hx e.symm
      rcases index_cases c r with ⟨h1, h2⟩ | ⟨a, b, rfl, h2, h3⟩
      · refine .inl ⟨?_, ?_⟩
        · unfold Lib.index; rw [hp, h1]; simp
        · simp [h2]; exact fun e => hx e.symm
      · refine .inr ⟨x :: a, b, rfl, ?_, ?_⟩
        · simp [h2]; exact fun e => hx e.symm
        · unfold Lib.index
          rw [hp, h3]
          have : ¬ ((a.length : Int) == -1) = true := by simp
          simp only [this]
          simp

theorem splitK_sp (c : UInt8) : ∀ (k : Nat) (l : List UInt8), l.count c ≤ k → Lib.splitK [c] 0 k l = sp c l
  | 0, l, h => by
    rw [sp_none c l (List.count_eq_zero.1 (by omega))]
    rfl
  | k + 1, l, h => by
    rcases index_cases c l with ⟨h1, h2⟩ | ⟨a, b, rfl, h2, h3⟩
    · rw [sp_none c l h2]
      unfold Lib.splitK
      simp [h1]
    · rw [sp_hit c a b h2]
      unfold Lib.splitK
      rw [h3]
      have hn : ¬ ((a.length : Int) == -1) = true := by simp
      rw [if_neg hn]
      have hd : (a ++ c :: b).drop ((a.length : Int).toNat + [c].length) = b := by simp
      rw [hd, splitK_sp c k b (by
        have : (a ++ c :: b).count c = a.count c + (b.count c + 1) := by simp
        omega)]
      simp

theorem countFrom_sp (c : UInt8) : ∀ (k : Nat) (l : List UInt8), l.length < k → Lib.countFrom [c] k l = l.count c
  | 0, l, h => by omega
  | k + 1, l, h => by
    unfold Lib.countFrom
    rcases index_cases c l with ⟨h1, h2⟩ | ⟨a, b, rfl, h2, h3⟩
    · simp [h1, List.count_eq_zero.2 h2]
    · rw [h3]
      have hn : ¬ ((a.length : Int) == -1) = true := by simp
      rw [if_neg hn]
      have hd : (a ++ c :: b).drop ((a.length : Int).toNat + [c].length) = b := by simp
      rw [hd, countFrom_sp c k b (by simp at h; omega)]
      have : a.count c = 0 := List.count_eq_zero.2 h2
      simp [this]
      omega

theorem ba_eta (s : ByteArray) : (⟨s.data.toList.toArray⟩ : ByteArray) = s := by cases s; simp
theorem bs_data (s : ByteArray) : bs s.data.toList = s := ba_eta s

theorem splitB_sp (c : UInt8) (s : ByteArray) : Lib.splitB ⟨#[c]⟩ 0 (Lib.countB s ⟨#[c]⟩) s = (sp c s.data.toList).map bs := by
  have h := Lib.splitB_data ⟨#[c]⟩ 0 (Lib.countB s ⟨#[c]⟩) s
  have hc : Lib.countB s ⟨#[c]⟩ = s.data.toList.count c := countFrom_sp c _ _ (Nat.lt_succ_self _)
  have h2 : Lib.splitK (⟨#[c]⟩ : ByteArray).data.toList 0 (Lib.countB s ⟨#[c]⟩) s.data.toList = sp c s.data.toList := splitK_sp c _ _ (by rw [hc]; exact Nat.le_refl _)
  rw [h2] at h
  have h3 := congrArg (List.map bs) h
  rw [List.map_map] at h3
  rw [← h3]
  have : (bs ∘ fun x : ByteArray => x.data.toList) = id := by funext x; exact bs_data x
  rw [this, List.map_id]
theorem countB_sp (c : UInt8) (s : ByteArray) : Lib.countB s ⟨#[c]⟩ + 1 = (sp c s.data.toList).length := by
  have h := Lib.splitB_all ⟨#[c]⟩ (by show 1 ≤ 1; exact Nat.le_refl _) 0 _ s rfl
  rw [splitB_sp] at h
  simpa using h.symm

theorem sp_len (c : UInt8) (l : List UInt8) : (sp c l).length ≤ l.length + 1 := by
  induction l with
  | nil => simp [sp]
  | cons x r ih =>
    unfold sp
    split
    · simp; omega
    · split
      · simp
      · rename_i e
        rw [e] at ih
        simpa using Nat.le_succ_of_le ih
theorem sp_mem_len (c : UInt8) (l : List UInt8) : ∀ x ∈ sp c l, x.length ≤ l.length := by
  induction l with
  | nil => simp [sp]
  | cons y r ih =>
    unfold sp
    split
    · intro x hx
      simp at hx
      rcases hx with rfl | hx
      · simp
      · have := ih x hx; simp; omega
    · split
      · simp
      · rename_i e
        rw [e] at ih
        intro x hx
        simp at hx
        rcases hx with rfl | hx
        · have := ih _ (List.mem_cons_self ..); simp; omega
        · have := ih x (List.mem_cons_of_mem _ hx); simp; omega

/-! ### Lines -/
def glue : List (List UInt8) → Bool → List UInt8
  | [], _ => []
  | l :: r, ends => if r = [] then (if ends then l ++ [10] else l) else l ++ 10 :: glue r ends

def goodL : List (List UInt8) → Bool → Prop
  | [], _ => True
  | l :: r, ends => 10 ∉ l ∧ (r = [] → ends = false → l ≠ []) ∧ goodL r ends

def linesOf (t : List UInt8) : List (List UInt8) × Bool := if t = [] then ([], true) else (sp 10 (Lib.trimSuffix t [10]), Lib.hasSuffix t [10])

theorem sp_glue_t : ∀ l : List UInt8, glue (sp 10 l) true = l ++ [10]
  | [] => by simp [sp, glue]
  | x :: r => by
    have ih := sp_glue_t r
    have hne := sp_ne 10 r
    unfold sp
    split
    · rename_i h
      subst h
      simp [glue, hne, ih]
    · revert ih hne
      generalize sp 10 r = s
      intro ih hne
      cases s with
      | nil => exact absurd rfl hne
      | cons a b =>
        unfold glue at ih ⊢
        by_cases hb : b = []
        · simp [hb] at ih ⊢; exact ih
        · simp [hb] at ih ⊢; exact ih
theorem sp_glue_f : ∀ l : List UInt8, glue (sp 10 l) false = l
  | [] => by simp [sp, glue]
  | x :: r => by
    have ih := sp_glue_f r
    have hne := sp_ne 10 r
    unfold sp
    split
    · rename_i h
      subst h
      simp [glue, hne, ih]
    · revert ih hne
      generalize sp 10 r = s
      intro ih hne
      cases s with
      | nil => exact absurd rfl hne
      | cons a b =>
        unfold glue at ih ⊢
        by_cases hb : b = []
        · simp [hb] at ih ⊢; exact ih
        · simp [hb] at ih ⊢; exact ih
theorem sp_no (c : UInt8) (l : List UInt8) : ∀ x ∈ sp c l, c ∉ x := by
  induction l with
  | nil => simp [sp]
  | cons y r ih =>
    unfold sp
    split
    · intro x hx
      simp at hx
      rcases hx with rfl | hx
      · simp
      · exact ih x hx
    · rename_i hy
      split
      · simp; exact fun e => hy e.symm
      · rename_i e
        rw [e] at ih
        intro x hx
        simp at hx
        rcases hx with rfl | hx
        · have := ih _ (List.mem_cons_self ..)
          simp [this]; exact fun e => hy e.symm
        · exact ih x (List.mem_cons_of_mem _ hx)
theorem goodL_of (ends : Bool) : ∀ L : List (List UInt8), (∀ x ∈ L, 10 ∉ x) → (ends = false → ∀ x, L.getLast? = some x → x ≠ []) → goodL L ends
  | [], _, _ => trivial
  | l :: r, h1, h2 => by
    refine ⟨h1 l (List.mem_cons_self ..), ?_, goodL_of ends r (fun x hx => h1 x (List.mem_cons_of_mem _ hx)) ?_⟩
    · rintro rfl he
      exact h2 he l rfl
    · intro he x hx
      refine h2 he x ?_
      rw [List.getLast?_cons, hx]
      rfl
theorem glue_getLast : ∀ L : List (List UInt8), L ≠ [] → L.getLast? = some [] → glue L false = [] ∨ (glue L false).getLast? = some 10
  | [], h, _ => absurd rfl h
  | [l], _, h => by simp at h; subst h; left; simp [glue]
  | l :: m :: r, _, h => by
    have h2 : (m :: r).getLast? = some [] := by simpa using h
    right
    unfold glue
    rw [if_neg (by simp)]
    rcases glue_getLast (m :: r) (by simp) h2 with h3 | h3
    · rw [h3]; simp
    · rw [List.getLast?_append, List.getLast?_cons, h3]
      rfl
theorem hasSuffix_one (t : List UInt8) (c : UInt8) : Lib.hasSuffix t [c] = true ↔ t.getLast? = some c := by
  unfold Lib.hasSuffix
  rw [List.isSuffixOf_iff_suffix]
  constructor
  · rintro ⟨a, rfl⟩; simp
  · intro h
    obtain ⟨a, rfl⟩ := List.getLast?_eq_some_iff.1 h
    exact ⟨a, rfl⟩

theorem lines_glue (t : List UInt8) : glue (linesOf t).1 (linesOf t).2 = t := by
  unfold linesOf
  by_cases ht : t = []
  · subst ht; rfl
  · rw [if_neg ht]
    show glue (sp 10 (Lib.trimSuffix t [10])) (Lib.hasSuffix t [10]) = t
    by_cases hs : Lib.hasSuffix t [10] = true
    · rw [hs, sp_glue_t]
      unfold Lib.trimSuffix
      rw [if_pos hs]
      obtain ⟨a, rfl⟩ := List.getLast?_eq_some_iff.1 ((hasSuffix_one t 10).1 hs)
      simp
    · have hs' : Lib.hasSuffix t [10] = false := by simpa using hs
      unfold Lib.trimSuffix
      rw [hs', sp_glue_f]
      simp
theorem lines_good (t : List UInt8) : goodL (linesOf t).1 (linesOf t).2 := by
  unfold linesOf
  by_cases ht : t = []
  · subst ht; trivial
  · rw [if_neg ht]
    refine goodL_of _ _ (sp_no 10 _) ?_
    intro he x hx
    have he' : Lib.hasSuffix t [10] = false := he
    rintro rfl
    have h1 : Lib.trimSuffix t [10] = t := by unfold Lib.trimSuffix; rw [he']; simp
    have hx' : (sp 10 (Lib.trimSuffix t [10])).getLast? = some [] := hx
    rw [h1] at hx'
    have h2 := glue_getLast _ (sp_ne 10 t) hx'
    rw [sp_glue_f] at h2
    rcases h2 with h2 | h2
    · exact ht h2
    · have := (hasSuffix_one t 10).2 h2
      rw [he'] at this
      cases this

theorem cut_glue (l : List UInt8) (r : List (List UInt8)) (ends : Bool) (h : goodL (l :: r) ends) :
    Lib.cut (glue (l :: r) ends) [10] = if r = [] ∧ ends = false then (l, [], false) else (l, glue r ends, true) := by
  obtain ⟨h1, h2, h3⟩ := h
  have hit : ∀ b, Lib.cut (l ++ 10 :: b) [10] = (l, b, true) := by
    intro b
    unfold Lib.cut
    have hi : Lib.index (l ++ 10 :: b) [10] = l.length := by
      rcases index_cases 10 (l ++ 10 :: b) with ⟨_, h5⟩ | ⟨a, b', he, h5, h6⟩
      · exact absurd (by simp) h5
      · rw [h6]
        have h7 := sp_hit 10 a b' h5
        rw [← he, sp_hit 10 l b h1] at h7
        injection h7 with h7 _
        rw [h7]
    rw [hi]
    have : (0 : Int) ≤ (l.length : Int) := Int.natCast_nonneg _
    simp [this]
  have miss : Lib.cut l [10] = (l, [], false) := by
    unfold Lib.cut
    rcases index_cases 10 l with ⟨h5, _⟩ | ⟨a, b', he, h5, h6⟩
    · rw [h5]; simp
    · exact absurd (by rw [he]; simp) h1
  rw [glue]
  by_cases hr : r = []
  · subst hr
    cases ends with
    | true => simp; exact hit []
    | false => simp; exact miss
  · simp [hr, hit]
theorem glue_ne (l : List UInt8) (r : List (List UInt8)) (ends : Bool) (h : goodL (l :: r) ends) : glue (l :: r) ends ≠ [] := by
  obtain ⟨h1, h2, h3⟩ := h
  unfold glue
  by_cases hr : r = []
  · subst hr
    cases ends with
    | true => simp
    | false => simpa using h2 rfl rfl
  · simp [hr]
theorem glue_len (l : List UInt8) (r : List (List UInt8)) (ends : Bool) : l.length ≤ (glue (l :: r) ends).length ∧ (glue r ends).length ≤ (glue (l :: r) ends).length := by
  rw [glue]
  by_cases hr : r = []
  · subst hr; cases ends <;> simp [glue]
  · rw [if_neg hr]
    simp only [List.length_append, List.length_cons]
    omega
theorem lines_len (t : List UInt8) : (linesOf t).1.length ≤ t.length + 1 := by
  unfold linesOf
  split
  · simp
  · refine Nat.le_trans (sp_len _ _) ?_
    unfold Lib.trimSuffix
    split
    · simp
    · exact Nat.le_refl _
theorem lines_mem_len (t : List UInt8) : ∀ x ∈ (linesOf t).1, x.length ≤ t.length := by
  unfold linesOf
  split
  · simp
  · intro x hx
    refine Nat.le_trans (sp_mem_len _ _ x hx) ?_
    unfold Lib.trimSuffix
    split
    · simp
    · exact Nat.le_refl _

/-! ### A reader of lines -/
def readGo {σ : Type} (st : σ → List UInt8 → Bool × σ) : σ → List (List UInt8) → Bool → Nat → Nat × Bool × σ
  | s, [], _, _ => (0, true, s)
  | s, l :: r, ends, i => if (r.isEmpty && !ends) = true then (i, false, s) else if (st s l).1 = true then readGo st (st s l).2 r ends (i + 1) else (i, false, (st s l).2)

/-! ### Numbers -/
def num (l : List UInt8) : Option Int := match Lib.atoiAll l with
  | .ok n => if Lib.itoa n = l then some n else none
  | _ => none

def canon (d : Nat) (l : List UInt8) : Bool :=
  let r := Lib.trimPrefix l [45]
  !(r.isEmpty || decide (d < r.length) || (r.head? == some 48 && (decide (1 < r.length) || decide (r.length < l.length)))) && r.all fun c => decide (48 ≤ c.toNat) && decide (c.toNat ≤ 57)

def atoiO (l : List UInt8) : Option Int := match Lib.atoiAll l with
  | .ok n => some n
  | _ => none
def numD (d : Nat) (l : List UInt8) : Option Int := if canon d l then atoiO l else none

theorem dig_u8 (k : Nat) (h : k < 10) : (UInt8.ofNat (48 + k)).toNat = 48 + k := by
  rw [UInt8.toNat_ofNat']; exact Nat.mod_eq_of_lt (by omega)
theorem u8_dig (c : UInt8) (h : 48 ≤ c.toNat) : UInt8.ofNat (48 + (c.toNat - 48)) = c := by
  rw [show 48 + (c.toNat - 48) = c.toNat by omega]; simp

theorem dec_digits (u : Nat) : (Lib.decDigits u).all (fun c => decide (48 ≤ c.toNat) && decide (c.toNat ≤ 57)) = true := by
  induction u using Nat.strongRecOn with
  | _ u ih =>
    rw [Lib.decDigits]
    split
    · rename_i h
      have := dig_u8 u h
      simp [this]; omega
    · rename_i h
      have h1 := ih (u / 10) (by omega)
      have := dig_u8 (u % 10) (by omega)
      rw [List.all_append, h1]
      simp [this]; omega
theorem dec_ne (u : Nat) : Lib.decDigits u ≠ [] := by
  rw [Lib.decDigits]; split <;> simp
theorem dec_head (u : Nat) (h1 : 1 ≤ u) : (Lib.decDigits u).head? ≠ some 48 := by
  induction u using Nat.strongRecOn with
  | _ u ih =>
    rw [Lib.decDigits]
    split
    · rename_i h
      have := dig_u8 u h
      intro e
      have e2 : UInt8.ofNat (48 + u) = 48 := by injection e
      rw [e2] at this
      have h48 : (48 : UInt8).toNat = 48 := rfl
      omega
    · rename_i h
      have h2 := ih (u / 10) (by omega) (by omega)
      rw [List.head?_append]
      cases hd : (Lib.decDigits (u / 10)).head? with
      | none => exact absurd (List.head?_eq_none_iff.1 hd) (dec_ne _)
      | some c => rw [hd] at h2; simpa using h2
theorem dec_len (k u : Nat) (h : u < 10 ^ (k + 1)) : (Lib.decDigits u).length ≤ k + 1 := by
  induction k generalizing u with
  | zero => rw [Lib.decDigits, dif_pos (by simpa using h)]; simp
  | succ k ih =>
    rw [Lib.decDigits]
    split
    · simp
    · have := ih (u / 10) (by rw [Nat.pow_succ] at h; omega)
      simp; omega

theorem trim_dec (u : Nat) : Lib.trimPrefix (Lib.decDigits u) [45] = Lib.decDigits u := by
  unfold Lib.trimPrefix Lib.hasPrefix
  have h := dec_digits u
  cases hd : Lib.decDigits u with
  | nil => simp
  | cons c r =>
    rw [hd] at h
    simp at h
    have : c ≠ 45 := by rintro rfl; simp at h
    simp [List.isPrefixOf, this.symm]

theorem canon_itoa (n : Int) (h0 : -9223372036854775808 ≤ n) (h1 : n ≤ 9223372036854775807) : canon 19 (Lib.itoa n) = true := by
  by_cases hn : n < 0
  · obtain ⟨u, rfl⟩ : ∃ u : Nat, n = -(u : Int) := ⟨n.natAbs, by omega⟩
    have hu : 1 ≤ u := by omega
    rw [Lib.itoa_neg u hu]
    unfold canon
    have ht : Lib.trimPrefix (45 :: Lib.decDigits u) [45] = Lib.decDigits u := by simp [Lib.trimPrefix, Lib.hasPrefix]
    rw [ht]
    have hl := dec_len 18 u (by omega)
    have hh := dec_head u hu
    have hd := dec_digits u
    have he := dec_ne u
    simp only [hd]
    have h2 : ((Lib.decDigits u).head? == some 48) = false := by simpa using hh
    have h3 : (Lib.decDigits u).isEmpty = false := by simpa using he
    rw [h2, h3]
    simp; omega
  · obtain ⟨u, rfl⟩ : ∃ u : Nat, n = (u : Int) := ⟨n.toNat, by omega⟩
    rw [Lib.itoa_nonneg u]
    unfold canon
    rw [trim_dec]
    have hl := dec_len 18 u (by omega)
    have hd := dec_digits u
    have he := dec_ne u
    have h3 : (Lib.decDigits u).isEmpty = false := by simpa using he
    simp only [hd, h3]
    by_cases hu : 1 ≤ u
    · have hh := dec_head u hu
      have h2 : ((Lib.decDigits u).head? == some 48) = false := by simpa using hh
      rw [h2]
      simp; omega
    · obtain rfl : u = 0 := by omega
      rw [Lib.decDigits_one (by omega)]
      simp

theorem parse_dec : ∀ (r : List UInt8) (acc u : Nat), 1 ≤ acc → Lib.parseUint10 acc r = .ok u → Lib.decDigits u = Lib.decDigits acc ++ r ∧ acc ≤ u
  | [], acc, u, h1, h => by
    simp only [Lib.parseUint10] at h
    injection h with h
    subst h
    simp
  | c :: r, acc, u, h1, h => by
    simp only [Lib.parseUint10] at h
    split at h
    · rename_i hc
      split at h
      · cases h
      · split at h
        · cases h
        · obtain ⟨h2, h3⟩ := parse_dec r _ u (by omega) h
          refine ⟨?_, by omega⟩
          rw [h2, Lib.decDigits.eq_1 (acc * 10 + (c.toNat - 48)), dif_neg (by omega), show (acc * 10 + (c.toNat - 48)) / 10 = acc by omega, show (acc * 10 + (c.toNat - 48)) % 10 = c.toNat - 48 by omega, u8_dig c hc.1]
          simp
    · cases h
theorem parse_canon (l : List UInt8) (u : Nat) (h : Lib.parseMag l = .ok u) (hc : l.head? ≠ some 48 ∨ l.length ≤ 1) : Lib.decDigits u = l ∧ (l.head? ≠ some 48 → 1 ≤ u) := by
  unfold Lib.parseMag at h
  split at h
  · cases h
  · rename_i hne
    cases l with
    | nil => exact absurd rfl hne
    | cons c r =>
      simp only [Lib.parseUint10] at h
      split at h
      · rename_i hd
        split at h
        · cases h
        · split at h
          · cases h
          · by_cases h48 : c = 48
            · subst h48
              have hr : r = [] := by
                rcases hc with hc | hc
                · simp at hc
                · simp at hc; exact hc
              subst hr
              simp only [Lib.parseUint10] at h
              injection h with h
              subst h
              exact ⟨by rw [show 0 * 10 + (UInt8.toNat 48 - 48) = 0 from rfl, Lib.decDigits_one (by omega)]; rfl, fun e => by simp at e⟩
            · have hc1 : 1 ≤ c.toNat - 48 := by
                have : c.toNat ≠ 48 := fun e => h48 (by rw [← UInt8.toNat_inj]; simpa using e)
                omega
              obtain ⟨h2, h3⟩ := parse_dec r _ u (by omega) h
              refine ⟨?_, fun _ => by omega⟩
              rw [h2, Nat.zero_mul, Nat.zero_add, Lib.decDigits_one (by omega), u8_dig c hd.1]
              rfl
      · cases h

theorem trim_cases (l : List UInt8) : (∃ r, l = 45 :: r ∧ Lib.trimPrefix l [45] = r) ∨ (l.head? ≠ some 45 ∧ Lib.trimPrefix l [45] = l) := by
  cases l with
  | nil => right; exact ⟨by simp, rfl⟩
  | cons c r =>
    by_cases h : c = 45
    · subst h
      left
      exact ⟨r, rfl, by simp [Lib.trimPrefix, Lib.hasPrefix]⟩
    · right
      refine ⟨by simpa using h, ?_⟩
      unfold Lib.trimPrefix Lib.hasPrefix
      have : ¬ (45 : UInt8) = c := fun e => h e.symm
      simp [List.isPrefixOf, this]

theorem itoa_canon (d : Nat) (l : List UInt8) (n : Int) (h : canon d l = true) (ha : Lib.atoiAll l = .ok n) : Lib.itoa n = l := by
  unfold canon at h
  rcases trim_cases l with ⟨r, rfl, ht⟩ | ⟨hh, ht⟩
  · rw [ht] at h
    simp at h
    obtain ⟨⟨⟨h1, h2⟩, h3⟩, h4⟩ := h
    rw [Lib.atoiAll_minus] at ha
    rcases hp : Lib.parseMag r with u | _ | _
    rotate_left
    · rw [hp] at ha; cases ha
    · rw [hp] at ha; cases ha
    ·
      rw [hp] at ha
      simp only [Lib.signed] at ha
      split at ha
      · cases ha
      · injection ha with ha
        obtain ⟨h5, h6⟩ := parse_canon r u hp (.inl h3)
        rw [← ha, Lib.itoa_neg u (h6 h3), h5]
  · rw [ht] at h
    simp at h
    obtain ⟨⟨⟨h1, h2⟩, h3⟩, h4⟩ := h
    cases l with
    | nil => exact absurd rfl h1
    | cons c r =>
      have hc := h4 c (List.mem_cons_self ..)
      rw [Lib.atoiAll_plain c r (by omega) (by omega)] at ha
      rcases hp : Lib.parseMag (c :: r) with u | _ | _
      rotate_left
      · rw [hp] at ha; cases ha
      · rw [hp] at ha; cases ha
      ·
        rw [hp] at ha
        simp only [Lib.signless] at ha
        split at ha
        · cases ha
        · injection ha with ha
          obtain ⟨h5, h6⟩ := parse_canon (c :: r) u hp (by
            by_cases hx : (c :: r).head? = some 48
            · right; rcases h3 with h3 | h3
              · exact absurd hx h3
              · exact h3
            · left; exact hx)
          rw [← ha, Lib.itoa_nonneg u, h5]

/-- The two readers of a number agree. -/
theorem numD_num (l : List UInt8) : numD 19 l = num l := by
  unfold numD num atoiO
  rcases ha : Lib.atoiAll l with n | _ | _
  rotate_left
  · simp
  · simp
  ·
    by_cases hc : canon 19 l = true
    · simp [hc, itoa_canon 19 l n hc ha]
    · simp only [hc]
      by_cases hi : Lib.itoa n = l
      · have hb := Lib.atoiAll_bounds ha
        have := canon_itoa n hb.1 hb.2
        rw [hi] at this
        exact absurd this hc
      · simp [hi]
end Go.Proofs.YtcldaldfonfbgaaGreatDoor
