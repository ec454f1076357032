/- Stream.BinText. -/
import Derived.Test.YtcldaldfonfbgaaGreatDoorF3
set_option linter.unusedVariables false
set_option linter.unusedSimpArgs false
namespace Go.Proofs.YtcldaldfonfbgaaGreatDoor
open Go.RowKit

theorem picked_ok {l : List Int} {k : Nat} {vals : List Int} (h : 0 < vals.length) (hv : ∀ x ∈ vals, i64ok x) : i64ok (picked l k vals) := hv _ (picked_mem h)
theorem rs_ok (l : List Int) (k : Nat) (most : Int) (h0 : 0 ≤ most) (hm : most ≤ 1000) : ∀ x ∈ rightSamples l k most, (0 ≤ x.at_ ∧ x.at_ ≤ 1000000000) ∧ i64ok x.val ∧ i64ok x.q := by
  intro x hx
  unfold rightSamples at hx
  rw [List.mem_map] at hx
  obtain ⟨i, hi, rfl⟩ := hx
  rw [List.mem_range] at hi
  have hb := rsAt_bd l (k + 2) (picked l k [0, 5, 90]) i
  have hp := picked_bd (l := l) (k := k) (vals := [0, 5, 90]) 0 90 (by decide) (by decide)
  have hr := ranged_bd (l := l) (k := k + 1) h0
  unfold rsN at hi
  refine ⟨?_, ?_, ?_⟩
  · show 0 ≤ rsAt l (k + 2) _ i ∧ rsAt l (k + 2) _ i ≤ 1000000000
    omega
  · show i64ok (if _ then _ else _)
    split
    · exact ⟨by decide, by decide⟩
    · exact picked_ok (by decide) (show ∀ x ∈ rsV, -9223372036854775808 ≤ x ∧ x ≤ 9223372036854775807 by decide)
  · exact picked_ok (by decide) (show ∀ x ∈ rsQ, -9223372036854775808 ≤ x ∧ x ≤ 9223372036854775807 by decide)
theorem rs_len (l : List Int) (k : Nat) (most : Int) (h0 : 0 ≤ most) : ((rightSamples l k most).length : Int) ≤ most ∧ rightSamplesK l k most ≤ k + 2 + 3 * most.toNat := by
  have hr := ranged_bd (l := l) (k := k + 1) h0
  unfold rightSamples rightSamplesK rsN
  simp
  omega

theorem Rd.take {α : Type} {E : Enc α} {w : World} {A : Option Addr} {n : Nat} {xs : List α} (h : Rd E w A n xs) (m : Nat) (hm : m ≤ n) : Rd E w A m (xs.take m) := by
  have hl := h.len
  refine ⟨by rw [List.length_take]; omega, flat_len E _ |>.trans (by rw [List.length_take]; congr 1; omega), by have := h.2.2.1; omega, fun hp => ?_⟩
  rcases Nat.eq_zero_or_pos n with h0 | h0
  · have : m = 0 := by omega
    subst this; simp at hp
  · obtain ⟨g, o, rfl, hc⟩ := h.2.2.2 (Nat.mul_pos h0 E.pos)
    refine ⟨g, o, rfl, fun j v hj => hc j v ?_⟩
    have hsplit : xs.flatMap E.enc = (xs.take m).flatMap E.enc ++ (xs.drop m).flatMap E.enc := by rw [← List.flatMap_append, List.take_append_drop]
    rw [hsplit, List.getElem?_append_left (List.getElem?_eq_some_iff.1 hj).1]
    exact hj

theorem qstep_true : isStepB 10 = true := by decide

set_option maxHeartbeats 8000000 in
set_option maxRecDepth 100000 in
theorem binText_any (step : Int) (b : Nat) (l : List Int) (k : Nat) (w : World) (h : Strm w b l k) (he : Env w) (hb : gl ≤ b) (hk : k ≤ 1000000) :
    Calls Tryz.prog 12 #[.pointer (some ⟨b, 0, none⟩), .int .i64 step] w
      fun e w' => (∃ r, e = .returned (.string r) ∧ r.size ≤ 1000) ∧ (∃ k', k' ≤ k + 100 ∧ Strm w' b l k') ∧ Kp (Sole b) w w' := by
  have SF := Lib.hid (stepFault_any step)
  have RS := Lib.hid (rightSamples_any 6 b l k w h hk (by omega) (by omega))
  have hlen := rs_len l k 6 (by omega)
  have hok := rs_ok l k 6 (by omega) (by omega)
  generalize rightSamples l k 6 = R at *
  generalize rightSamplesK l k 6 = KK at *
  have HOK := Lib.hid hok
  have HSB := Lib.hid (show ∀ i, Sole b i → gl ≤ i by rintro i rfl; exact hb)
  obtain ⟨st, hst1, hst2, hst3⟩ : ∃ st : Int, 1 ≤ st ∧ st ≤ 86400000 ∧ st = (if isStepB step = true then step else 10) := by
    by_cases hs : isStepB step = true
    · have := isStepB_true hs
      exact ⟨step, this.1, this.2, by rw [if_pos hs]⟩
    · exact ⟨10, by omega, by omega, by rw [if_neg hs]⟩
  have hkb : Hid (∀ W, Kp (Sole b) w W → Env W) := Lib.hid (fun W hW => he.kp hW HSB.out)
  clear hok
  cases hs : isStepB step
  all_goals
    rw [hs] at SF hst3
    simp only [reduceIte, Bool.false_eq_true] at SF hst3
    go_enter Tryz.func12, Tryz.ntmps12
    go_wp2_with fail
    refine (SF.out _).mono ?_
    rintro e w1 ⟨rfl, rfl⟩
    go_wp2_with fail
    refine RS.out.mono ?_
    rintro e w2 ⟨A, c, rfl, hown, hs2, hk2⟩
    have hrd := hown.rd
    have he2 := hkb.out _ hk2
    subst hst3
    go_wp2_with fail
    refine (binsOf_weak A R.length c R _ w2 hrd (by omega) (by first | exact hst1 | omega) (by first | exact hst2 | omega) HOK.out).mono ?_
    rintro e w3 ⟨A3, c3, ys, rfl, hown3, ⟨hyl, hyok⟩, hk3⟩
    have he3 := he2.kp0 hk3
    have hs3 := hs2.kp0 hk3
    have hk03 : Kp (Sole b) w w3 := hk2.then0 hk3
    obtain ⟨m, hm⟩ : ∃ m : Nat, m = min ys.length 3 := ⟨_, rfl⟩
    have hcap := hown3.cap
    have hrd3 := hown3.rd.take m (by omega)
    have BL := Lib.hid (fun c => binLines_any A3 m c (ys.take m) w3 hrd3 he3 (by omega) (fun x hx => hyok x (List.mem_of_mem_take hx)))
    have hbl : (bs (binLines (ys.take m))).size ≤ 400 := by
      have h1 := binLines_len (ys.take m) (fun x hx => hyok x (List.mem_of_mem_take hx))
      rw [List.length_take] at h1
      show (binLines (ys.take m)).length ≤ 400
      omega
    have hmm : min (ys.length : Int) 3 = (m : Int) := by omega
    clear hown hrd hown3 hrd3 hyok
    go_wp2_with fail
    rw [← hm]
    refine (BL.out _).mono ?_
    rintro e w4 ⟨rfl, hk4⟩
    have he4 := he3.kp0 hk4
    have hs4 := hs3.kp0 hk4
    have hk04 : Kp (Sole b) w w4 := hk03.then0 hk4
    generalize bs (binLines (ys.take m)) = r0 at *
    have hpk := picked_mem (l := l) (k := KK) (vals := [0, 0, 1, 2]) (by decide)
    have PK := Lib.hid (pick_lit [0, 0, 1, 2] _ 4 b l KK w4 hs4 (by omega) rfl rfl (by decide) (by decide))
    obtain ⟨n, hn2, hn⟩ : ∃ n : Nat, n ≤ 2 ∧ picked l KK [0, 0, 1, 2] = n := by
      simp at hpk
      rcases hpk with h | h | h
      · exact ⟨0, by omega, by rw [h]; rfl⟩
      · exact ⟨1, by omega, by rw [h]; rfl⟩
      · exact ⟨2, by omega, by rw [h]; rfl⟩
    rw [hn] at PK
    clear hpk hn hs2 hs3 hs4 hk2 hk3 hk4 BL
    go_wp2_with fail
    refine PK.out.mono ?_
    rintro e w5 ⟨rfl, hs5, hk5⟩
    have hk05 : Kp (Sole b) w w5 := hk04.then_ hk5
    clear hk5
    go_wp2_with fail
    go_loopg [6, 23] n (fun g s6 s23 wr => ∃ (i : Nat) (r : ByteArray) (k' : Nat), i + g = n ∧ s23 = .int .i64 i ∧ s6 = .string r ∧ r.size ≤ 400 + 10 * i ∧ k' ≤ KK + 1 + 3 * i ∧ Strm wr b l k' ∧ Kp (Sole b) w wr)
    case atStart => exact ⟨0, r0, KK + 1, by omega, rfl, rfl, by omega, by omega, hs5, hk05⟩
    case round =>
      obtain ⟨i, r, k', hi, rfl, rfl, hr, hk', hsr, hkr⟩ := hrel
      by_cases hin : i < n
      · go_wp2_with fail
        refine (changed_any r ⟨#[32, 10, 48, 45, 57, 53]⟩ b l k' wr hsr (by omega) (by omega) (by decide)).mono ?_
        rintro e w6 ⟨⟨r2, rfl, hr2⟩, ⟨k2, hk2, hs6⟩, hk6⟩
        have hk06 : Kp (Sole b) w w6 := hkr.then_ hk6
        have hr3 : r2.size ≤ r.size + 6 + 4 := hr2
        clear hr2
        go_wp2_with fail
        go_roundg (gk - 1)
        case measure => omega
        case rel => exact ⟨i + 1, r2, k2, by omega, by go_num, rfl, by omega, by omega, hs6, hk06⟩
      · obtain rfl : i = n := by omega
        go_wp2_with fail
        go_ret
        exact ⟨⟨r, rfl, by omega⟩, ⟨k', by omega, hsr⟩, hkr⟩
end Go.Proofs.YtcldaldfonfbgaaGreatDoor
