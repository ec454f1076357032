/- base.Numbers, base.Words. -/
import Derived.Test.YtcldaldfonfbgaaGreatDoorE4
set_option linter.unusedVariables false
set_option linter.unusedSimpArgs false
namespace Go.Proofs.YtcldaldfonfbgaaGreatDoor
open Go.RowKit

def numsO (f : List UInt8 → Option Int) : List (List UInt8) → Option (List Int)
  | [] => some []
  | l :: r => match f l with
    | none => none
    | some x => (numsO f r).map (x :: ·)
theorem numsO_len {f : List UInt8 → Option Int} : ∀ {ls : List (List UInt8)} {ns : List Int}, numsO f ls = some ns → ns.length = ls.length
  | [], ns, h => by simp [numsO] at h; subst h; rfl
  | l :: r, ns, h => by
    unfold numsO at h
    split at h
    · cases h
    · rename_i x hx
      cases hr : numsO f r with
      | none => rw [hr] at h; cases h
      | some m =>
        rw [hr] at h
        simp at h
        subst h
        simp [numsO_len hr]
theorem numsO_step {f : List UInt8 → Option Int} {ls : List (List UInt8)} {i : Nat} {ns : List Int} {l : List UInt8} {x : Int} (h : numsO f ls = (numsO f (ls.drop i)).map (ns ++ ·)) (hl : ls[i]? = some l) (hx : f l = some x) :
    numsO f ls = (numsO f (ls.drop (i + 1))).map ((ns ++ [x]) ++ ·) := by
  obtain ⟨h1, h2⟩ := List.getElem?_eq_some_iff.1 hl
  rw [List.drop_eq_getElem_cons h1, h2, numsO, hx] at h
  rw [h]
  cases numsO f (ls.drop (i + 1)) <;> simp
theorem numsO_stop {f : List UInt8 → Option Int} {ls : List (List UInt8)} {i : Nat} {ns : List Int} {l : List UInt8} (h : numsO f ls = (numsO f (ls.drop i)).map (ns ++ ·)) (hl : ls[i]? = some l) (hx : f l = none) : numsO f ls = none := by
  obtain ⟨h1, h2⟩ := List.getElem?_eq_some_iff.1 hl
  rw [List.drop_eq_getElem_cons h1, h2, numsO, hx] at h
  rw [h]; rfl

def NumsP (o : Option (List Int)) (base : Nat) (e : Ending) (w : World) : Prop := match o with
  | none => e = .returned (.tuple #[.slice none 0 0, .bool false])
  | some ns => ∃ A c, e = .returned (.tuple #[.slice A ns.length c, .bool true]) ∧ Rd eInt w A ns.length ns ∧ ∀ a, A = some a → base ≤ a.block

theorem numI64 {d : Nat} {l : List UInt8} {x : Int} (h : numD d l = some x) : i64ok x := by
  unfold numD atoiO at h
  split at h
  · split at h
    · rename_i n ha
      injection h with h
      subst h
      exact Lib.atoiAll_bounds ha
    · cases h
  · cases h

set_option maxHeartbeats 4000000 in
set_option maxRecDepth 100000 in
theorem numbersB_any (A : Option Addr) (n c d : Nat) (ls : List (List UInt8)) (w : World) (hr : Rd eStr w A n (ls.map bs)) (he : Env w) (hd : d ≤ 20) (hn : n ≤ 1000000) (hl : ∀ x ∈ ls, x.length ≤ 1000000) :
    Calls Tryz.prog 103 #[.slice A n c, .int .i64 d] w fun e w' => NumsP (numsO (numD d) ls) w.heap.size e w' ∧ Kp Non w w' := by
  have HR := Lib.hid hr
  have HL := Lib.hid hl
  have hln : ls.length = n := by have := hr.len; rwa [List.length_map] at this
  clear hr hl
  go_enter Tryz.func103, Tryz.ntmps103
  go_wp2_with fail
  go_loopg [6, 13] n (fun k s6 s13 wr => ∃ (i : Nat) (A' : Option Addr) (c' : Nat) (ns : List Int), i + k = n ∧ s13 = .int .i64 i ∧ ns.length = i ∧ s6 = .slice A' i c' ∧ Owns eInt 3 wr w.heap.size A' c' ns ∧ Kp Non w wr ∧ numsO (numD d) ls = (numsO (numD d) (ls.drop i)).map (ns ++ ·))
  case atStart => exact ⟨0, none, 0, [], by omega, rfl, rfl, rfl, Owns.nil _ _ _ _, Kp.refl _ _, by simp⟩
  case round =>
    obtain ⟨i, A', c', ns, hi, rfl, hnl, rfl, hown, hk, hnums⟩ := hrel
    have HO := Lib.hid hown
    have HNUM := Lib.hid hnums
    have HNL := Lib.hid hnl
    clear hown hnums hnl
    by_cases hin : i < n
    · obtain ⟨l, hl⟩ : ∃ l, ls[i]? = some l := ⟨_, List.getElem?_eq_getElem (by omega)⟩
      have hll := HL.out l (List.mem_of_getElem? hl)
      have hrd := HR.out.kp0 hk
      obtain ⟨g, o, rfl, _⟩ := hrd.at (by omega)
      have hcell := strs_cells hrd i (bs l) (by rw [List.getElem?_map, hl]; rfl)
      have NA := Lib.hid (number_any d hd l wr (he.kp0 hk) hll)
      have HLL := Lib.hid hl
      clear hrd hl
      cases hx : numD d l with
      | none =>
        have hstop := numsO_stop HNUM.out HLL.out hx
        have HX := Lib.hid hx
        clear hx
        go_wp2_with fail
        refine NA.out.mono ?_
        rintro e w1 ⟨⟨v, rfl, hv⟩, hk1⟩
        rw [HX.out]
        have hk01 := hk.then_ hk1
        clear hv
        go_wp2_with fail
        go_ret2
        rw [hstop]
        exact ⟨rfl, hk01⟩
      | some x =>
        have hstep := numsO_step HNUM.out HLL.out hx
        have HSTEP := Lib.hid hstep
        have HX := Lib.hid hx
        clear hx hstep
        go_wp2_with fail
        refine NA.out.mono ?_
        rintro e w1 ⟨⟨v, rfl, hv⟩, hk1⟩
        obtain rfl := hv x HX.out
        rw [HX.out]
        clear hv
        go_wp2_with (at_builtin; refine wp_append1 rfl _ _ 22 3 rfl eInt 8 ety_Int Tryz.underlying22 w.heap.size A' c' i _ v _ _ _ HNL.out rfl rfl ?c0 ?c1 ?c2 (by omega) (by omega) ?c3 ?c4)
        case c0 => simp
        case c1 => rfl
        case c2 => exact HO.out.kp0 hk1
        case c3 => have h1 := hk.size; have h2 := hk1.size; omega
        case c4 =>
        intro A5 c5 w5 ho5 hk5 hg5
        have hk05 := Kp.own (hk.then_ hk1) hk5 (Nat.le_refl _)
        have HO5 := Lib.hid ho5
        clear ho5 hk5 hg5
        go_wp2_with fail
        go_roundg (gk - 1)
        case measure => omega
        case rel => exact ⟨i + 1, A5, c5, ns ++ [v], by omega, by go_num, by simp [HNL.out], rfl, HO5.out, hk05, HSTEP.out⟩
    · obtain rfl : i = n := by omega
      have hend : numsO (numD d) ls = some ns := by
        rw [HNUM.out, List.drop_eq_nil_of_le (by omega)]
        simp [numsO]
      have hrd := HO.out.rd
      rw [HNL.out] at hrd
      go_wp2_with fail
      go_ret2
      rw [hend]
      exact ⟨⟨A', c', by show Ending.returned (.tuple #[.slice A' i c', .bool true]) = _; rw [HNL.out], by rw [HNL.out]; exact hrd, fun a ha => (HO.out.block a ha).1⟩, hk⟩

def wordsOk (many : Nat) (l : List UInt8) : Bool := decide ((sp 32 l).length = many) && (sp 32 l).all fun x => !x.isEmpty
def WordsP (many : Nat) (l : List UInt8) (e : Ending) (w : World) : Prop := if wordsOk many l then ∃ A c, e = .returned (.tuple #[.slice A many c, .bool true]) ∧ Rd eStr w A many ((sp 32 l).map bs) else e = .returned (.tuple #[.slice none 0 0, .bool false])

set_option maxHeartbeats 4000000 in
set_option maxRecDepth 100000 in
theorem words_any (l : List UInt8) (many : Nat) (w : World) (he : Env w) (hm : many ≤ 1000000) (hl : l.length ≤ 1000000) :
    Calls Tryz.prog 102 #[.string (bs l), .int .i64 many] w fun e w' => WordsP many l e w' ∧ Kp Non w w' := by
  obtain ⟨m, hmx⟩ := he.maxLen
  have hsp := splitB_sp 32 (bs l)
  have hct := countB_sp 32 (bs l)
  have e1 : (bs l).data.toList = l := by simp [bs]
  rw [e1] at hsp hct
  have CP := Tryz.strings_Split (bs l) ⟨#[32]⟩ m w (by show l.length < _; omega) hmx (by decide)
  rw [hsp, hct] at CP
  have hlen := sp_len 32 l
  obtain ⟨L, hL⟩ : ∃ L, L = sp 32 l := ⟨_, rfl⟩
  rw [← hL] at CP hlen
  have HCP := Lib.hid CP
  have HLE := Lib.hid hL
  have hx := blk_new w ((L.map bs).map Value.string).toArray 9
  have hrd := Rd.strs hx (by rw [List.length_map]; unfold maxLen; omega)
  rw [List.length_map] at hrd
  have HRD := Lib.hid hrd
  have hk1 : Kp Non w (w.alloc (.cells ((L.map bs).map Value.string).toArray 9)) := (Kp.refl _ _).alloc _
  have HK1 := Lib.hid hk1
  clear CP hsp hct e1 hL hmx hx hrd hk1
  generalize w.alloc (.cells ((L.map bs).map Value.string).toArray 9) = w2 at *
  by_cases hmany : L.length = many
  · have hwo : wordsOk many l = L.all fun x => !x.isEmpty := by unfold wordsOk; rw [← HLE.out]; simp [hmany]
    subst hmany
    have HW := Lib.hid hwo
    clear hwo
    go_enter Tryz.func102, Tryz.ntmps102
    go_wp2_with fail
    refine HCP.out.mono ?_
    rintro e w1 ⟨rfl, rfl⟩
    go_wp2_with fail
    go_loopg [17] L.length (fun k s17 wr => ∃ i : Nat, i + k = L.length ∧ s17 = .int .i64 i ∧ wr = w1 ∧ ∀ x ∈ L.take i, x.isEmpty = false)
    case atStart => exact ⟨0, by omega, rfl, rfl, by simp⟩
    case round =>
      obtain ⟨i, hi, rfl, rfl, hall⟩ := hrel
      have HALL := Lib.hid hall
      clear hall
      by_cases hin : i < L.length
      · obtain ⟨x, hx⟩ : ∃ x, L[i]? = some x := ⟨_, List.getElem?_eq_getElem (by omega)⟩
        have hcell := strs_cells HRD.out i (bs x) (by rw [List.getElem?_map, hx]; rfl)
        rw [Nat.zero_add] at hcell
        have HX := Lib.hid hx
        clear hx
        cases x with
        | nil =>
          have hw : wordsOk L.length l = false := by
            rw [HW.out, List.all_eq_false]
            exact ⟨[], List.mem_of_getElem? HX.out, by simp⟩
          have hb : bs ([] : List UInt8) = ⟨#[]⟩ := rfl
          rw [hb] at hcell
          go_wp2_with fail
          go_ret2
          unfold WordsP
          rw [hw]
          exact ⟨rfl, HK1.out⟩
        | cons y r =>
          obtain ⟨S, hS⟩ : ∃ S, S = bs (y :: r) := ⟨_, rfl⟩
          rw [← hS] at hcell
          have hne : S.toList.isEmpty = false := by rw [ByteArray.toList_eq, hS]; simp [bs]
          clear hS
          go_wp2_with fail
          go_roundg (gk - 1)
          case measure => omega
          case rel =>
            refine ⟨i + 1, by omega, by go_num, rfl, ?_⟩
            rw [List.take_add_one, HX.out]
            intro z hz
            simp only [Option.toList, List.mem_append, List.mem_singleton] at hz
            rcases hz with hz | rfl
            · exact HALL.out z hz
            · rfl
      · have hw : wordsOk L.length l = true := by
          rw [HW.out, List.all_eq_true]
          intro x hx
          have := HALL.out x (by rw [List.take_of_length_le (by omega)]; exact hx)
          simp [this]
        go_wp2_with fail
        go_ret2
        unfold WordsP
        rw [hw]
        exact ⟨⟨_, _, rfl, HLE.out ▸ HRD.out⟩, HK1.out⟩
  · have hw : wordsOk many l = false := by unfold wordsOk; rw [← HLE.out]; simp [hmany]
    go_enter Tryz.func102, Tryz.ntmps102
    go_wp2_with fail
    refine HCP.out.mono ?_
    rintro e w1 ⟨rfl, rfl⟩
    have hq : ((L.length : Int) == (many : Int)) = false := by simp; omega
    go_wp2_with fail
    go_ret2
    unfold WordsP
    rw [hw]
    exact ⟨rfl, HK1.out⟩
end Go.Proofs.YtcldaldfonfbgaaGreatDoor
