/- RightSamples. -/
import Derived.Test.YtcldaldfonfbgaaGreatDoorA3
import Derived.Test.YtcldaldfonfbgaaGreatDoorA4
import Derived.Outline
import Derived.WalkSpells
set_option linter.unusedVariables false
set_option linter.unusedSimpArgs false
namespace Go.Proofs.YtcldaldfonfbgaaGreatDoor
open Go.RowKit

structure Smp where
  at_ : Int
  val : Int
  q : Int
  deriving DecidableEq
def eSmp : Enc Smp := ⟨3, fun x => [.int .i64 x.at_, .int .i64 x.val, .int .i64 x.q], fun _ => rfl, fun _ u h => by simp at h; rcases h with rfl | rfl | rfl <;> rfl, by decide⟩

def rsV : List Int := [5, 5, 7, 7, -3, 100, 0]
def rsQ : List Int := [0, 0, 0, 1, 2]
def rsD : List Int := [1, 5, 10, 30, 60]
def rsAt (l : List Int) (k : Nat) (a : Int) : Nat → Int
  | 0 => a
  | i + 1 => rsAt l k a i + picked l (k + 3 * i + 2) rsD
def rsEl (l : List Int) (k : Nat) (a : Int) (i : Nat) : Smp :=
  ⟨rsAt l k a i, if (picked l (k + 3 * i + 1) rsQ == 2) = true then 0 else picked l (k + 3 * i) rsV, picked l (k + 3 * i + 1) rsQ⟩
def rsN (l : List Int) (k : Nat) (most : Int) : Nat := (ranged l (k + 1) 0 most).toNat
def rightSamples (l : List Int) (k : Nat) (most : Int) : List Smp := (List.range (rsN l k most)).map (rsEl l (k + 2) (picked l k [0, 5, 90]))
def rightSamplesK (l : List Int) (k : Nat) (most : Int) : Nat := k + 2 + 3 * rsN l k most

theorem rsAt_bd (l : List Int) (k : Nat) (a : Int) (i : Nat) : a + i ≤ rsAt l k a i ∧ rsAt l k a i ≤ a + 60 * i := by
  induction i with
  | zero => simp [rsAt]
  | succ i ih =>
    have := picked_bd (l := l) (k := k + 3 * i + 2) (vals := rsD) 1 60 (by decide) (by decide)
    simp only [rsAt]; omega

theorem ety_Smp : Ety Tryz.prog 53 3 24 := ety_mk (z := .agg #[.int .i64 0, .int .i64 0, .int .i64 0]) (by kernel_rfl) rfl

set_option maxHeartbeats 1600000 in
set_option maxRecDepth 100000 in
theorem rightSamples_any (most : Int) (b : Nat) (l : List Int) (k : Nat) (w : World) (h : Strm w b l k) (hk : k ≤ 1000000) (h0 : 0 ≤ most) (h1 : most ≤ 1000) :
    Calls Tryz.prog 30 #[.pointer (some ⟨b, 0, none⟩), .int .i64 most] w
      fun e w' => ∃ A c, e = .returned (.slice A (rightSamples l k most).length c) ∧ Owns eSmp 53 w' w.heap.size A c (rightSamples l k most) ∧ Strm w' b l (rightSamplesK l k most) ∧ Kp (Sole b) w w' := by
  have hlt := h.lt
  have hR := ranged_bd (l := l) (k := k + 1) h0
  have P1 := Lib.hid (pick_lit [0, 5, 90] _ 3 b l k w h (by omega) rfl rfl (by decide) (by decide))
  have hP := picked_bd (l := l) (k := k) (vals := [0, 5, 90]) 0 90 (by decide) (by decide)
  have hn : ranged l (k + 1) 0 most = (rsN l k most : Int) := by unfold rsN; omega
  have hlen : (rightSamples l k most).length = rsN l k most := by simp [rightSamples]
  have HX : Hid (rightSamples l k most = (List.range (rsN l k most)).map (rsEl l (k + 2) (picked l k [0, 5, 90]))) := rfl
  have HK : Hid (rightSamplesK l k most = k + 2 + 3 * rsN l k most) := rfl
  rw [hn] at hR
  rw [hlen]
  have HN := Lib.hid hn
  generalize picked l k [0, 5, 90] = a at *
  generalize rightSamples l k most = R at *
  generalize rightSamplesK l k most = KK at *
  generalize rsN l k most = n at *
  clear hlen hn
  go_enter Tryz.func30, Tryz.ntmps30
  go_wp2_with fail
  refine P1.out.mono ?_
  rintro e w1 ⟨rfl, hs1, hk1⟩
  go_wp2_with fail
  refine (range_any 0 most b l (k + 1) _ hs1 (by omega) h0 (by omega) (by omega)).mono ?_
  rintro e w2 ⟨rfl, hs2, hk2⟩
  rw [HN.out]
  have hk12 := hk1.then_ hk2
  clear hk1 hk2 hs1
  go_wp2_with fail
  go_loopg [5, 6, 14] n (fun g s5 s6 s14 wr => ∃ (i : Nat) (A : Option Addr) (c : Nat), i + g = n ∧ s14 = .int .i64 i ∧ s6 = .int .i64 (rsAt l (k + 2) a i) ∧ s5 = .slice A i c ∧
    Owns eSmp 53 wr w.heap.size A c ((List.range i).map (rsEl l (k + 2) a)) ∧ Strm wr b l (k + 2 + 3 * i) ∧ Kp (Sole b) w wr)
  case atStart => exact ⟨0, none, 0, by omega, rfl, rfl, rfl, Owns.nil _ _ _ _, hs2, hk12⟩
  case round =>
    obtain ⟨i, A, c, hi, rfl, rfl, rfl, hown, hs, hkp⟩ := hrel
    by_cases hin : i < n
    · have P2 := Lib.hid (fun W hW hb => pick_lit rsV _ 7 b l (k + 2 + 3 * i) W hW hb rfl rfl (by decide) (by decide))
      have P3 := Lib.hid (fun W hW hb => pick_lit rsQ _ 5 b l (k + 2 + 3 * i + 1) W hW hb rfl rfl (by decide) (by decide))
      have P4 := Lib.hid (fun W hW hb => pick_lit rsD _ 5 b l (k + 2 + 3 * i + 1 + 1) W hW hb rfl rfl (by decide) (by decide))
      have HE : Hid (rsEl l (k + 2) a i = ⟨rsAt l (k + 2) a i, if (picked l (k + 2 + 3 * i + 1) rsQ == 2) = true then 0 else picked l (k + 2 + 3 * i) rsV, picked l (k + 2 + 3 * i + 1) rsQ⟩) := rfl
      have HA : Hid (rsAt l (k + 2) a (i + 1) = rsAt l (k + 2) a i + picked l (k + 2 + 3 * i + 1 + 1) rsD) := rfl
      have hd := picked_bd (l := l) (k := k + 2 + 3 * i + 1 + 1) (vals := rsD) 1 60 (by decide) (by decide)
      have hat := rsAt_bd l (k + 2) a i
      generalize picked l (k + 2 + 3 * i) rsV = v at *
      generalize picked l (k + 2 + 3 * i + 1) rsQ = q at *
      generalize picked l (k + 2 + 3 * i + 1 + 1) rsD = d at *
      generalize hx : rsAt l (k + 2) a i = x at *
      have HX2 := Lib.hid hx
      clear hx
      have HO := Lib.hid hown
      clear hown
      have hle : w.heap.size ≤ wr.heap.size := hkp.size
      cases hq : q == 2
      all_goals
        have HQ := Lib.hid hq
        go_wp2_with fail
        refine (P2.out _ hs (by omega)).mono ?_
        rintro e w3 ⟨rfl, hs3, hk3⟩
        go_wp2_with fail
        refine (P3.out _ hs3 (by omega)).mono ?_
        rintro e w4 ⟨rfl, hs4, hk4⟩
        have hk34 := hk3.then_ hk4
        clear hk3 hk4 hs3
        have hmem : ∀ j, (List.map (rsEl l (k + 2) a) (List.range j)).length = j := fun j => by simp
        have HM := Lib.hid hmem
        clear hmem
        go_wp2_with (at_builtin; refine wp_append1 rfl _ _ 58 53 rfl eSmp 24 ety_Smp Tryz.underlying58 w.heap.size A c i _ (rsEl l (k + 2) a i) _ _ _ (HM.out i) rfl rfl ?c0 ?c1 ?c2 (by omega) (by omega) ?c3 ?c4)
        case c0 => simp
        case c1 => rw [HE.out, HQ.out]; rfl
        case c2 => exact (((HO.out.kpb hk34 (by rintro i rfl; exact hlt)).kp0 ((Kp.refl _ _).alloc _)))
        case c3 => simp; have := hk34.size; omega
        case c4 =>
        intro A' c' w5 hown5 hk5 hg5
        have hs5 := (hs4.alloc _).kp hk5 (fun i hi => Nat.lt_of_lt_of_le hlt hi)
        have hk05 := ((hkp.then_ hk34).alloc _).own hk5 (Nat.le_refl _)
        have HO5 := Lib.hid hown5
        clear hown5 hk5 hg5 hs4 hk34 HO
        go_wp2_with fail
        refine (P4.out _ hs5 (by omega)).mono ?_
        rintro e w6 ⟨rfl, hs6, hk6⟩
        go_wp2_with fail
        go_roundg (gk - 1)
        case measure => omega
        case rel =>
          refine ⟨i + 1, A', c', by omega, by go_num, by rw [HA.out], rfl, ?_, ?_, hk05.then_ hk6⟩
          · rw [List.range_succ, List.map_append, List.map_singleton]
            exact HO5.out.kpb hk6 (by rintro i rfl; exact hlt)
          · rw [show k + 2 + 3 * (i + 1) = k + 2 + 3 * i + 1 + 1 + 1 by omega]; exact hs6
    · go_wp2_with fail
      go_ret
      obtain rfl : i = n := by omega
      rw [HX.out, HK.out]
      exact ⟨_, _, rfl, hown, hs, hkp⟩
end Go.Proofs.YtcldaldfonfbgaaGreatDoor
