/- Stream.Changed, Stream.BinText, Stream.BinList. -/
import Derived.Test.YtcldaldfonfbgaaGreatDoorF2
import Derived.Laws.Runes
set_option linter.unusedVariables false
set_option linter.unusedSimpArgs false
namespace Go.Proofs.YtcldaldfonfbgaaGreatDoor
open Go.RowKit

theorem enc_size (n : Int) : (Utf8.encode n).size ≤ 4 := by
  unfold Utf8.encode
  simp only
  repeat' split
  all_goals first | decide | (show (Array.size _) ≤ 4; simp)

set_option maxHeartbeats 4000000 in
set_option maxRecDepth 100000 in
theorem changed_any (t s : ByteArray) (b : Nat) (l : List Int) (k : Nat) (w : World) (h : Strm w b l k) (hk : k ≤ 1073741800) (ht : t.size ≤ 1000000000) (hs : s.size ≤ 1000000000) :
    Calls Tryz.prog 90 #[.pointer (some ⟨b, 0, none⟩), .string t, .string s] w
      fun e w' => (∃ r, e = .returned (.string r) ∧ r.size ≤ t.size + s.size + 4) ∧ (∃ k', k' ≤ k + 3 ∧ Strm w' b l k') ∧ Kp (Sole b) w w' := by
  have h1 : (∃ r, Ending.returned (.string s) = .returned (.string r) ∧ r.size ≤ t.size + s.size + 4) := ⟨s, rfl, by omega⟩
  have H1 := Lib.hid h1
  clear h1
  by_cases ht0 : t.toList.isEmpty = true
  · go_enter Tryz.func90, Tryz.ntmps90
    go_wp2_with fail
    go_ret
    exact ⟨H1.out, ⟨k, by omega, h⟩, Kp.refl _ _⟩
  · by_cases hs0 : s.toList.isEmpty = true
    · go_enter Tryz.func90, Tryz.ntmps90
      go_wp2_with fail
      go_ret
      exact ⟨H1.out, ⟨k, by omega, h⟩, Kp.refl _ _⟩
    · have pos : ∀ x : ByteArray, ¬ x.toList.isEmpty = true → 1 ≤ x.size := by
        intro x hx
        rw [ByteArray.toList_eq] at hx
        rcases Nat.eq_zero_or_pos x.size with h0 | h0
        · exfalso
          apply hx
          have : x.data.toList.length = 0 := by rw [← Lib.size_eq]; exact h0
          rw [List.eq_nil_of_length_eq_zero this]; rfl
        · exact h0
      have htp := pos t ht0
      have hsp := pos s hs0
      have N1 := Lib.hid (next_any b l k t.size w h (by omega) (by omega))
      have b1 := nxt_lt (l := l) (k := k) (n := t.size) (by omega)
      obtain ⟨i, hi⟩ : ∃ i : Nat, nxt l k t.size = i := ⟨_, (Int.toNat_of_nonneg b1.1).symm⟩
      rw [hi] at b1 N1
      have b2 := nxt_lt (l := l) (k := k + 1) (n := s.size) (by omega)
      have N2 := Lib.hid (fun W (hW : Strm W b l (k + 1)) => next_any b l (k + 1) s.size W hW (by omega) (by omega))
      obtain ⟨j, hj⟩ : ∃ j : Nat, nxt l (k + 1) s.size = j := ⟨_, (Int.toNat_of_nonneg b2.1).symm⟩
      rw [hj] at b2 N2
      have N3 := Lib.hid (fun W (hW : Strm W b l (k + 2)) => next_any b l (k + 2) 3 W hW (by omega) (by omega))
      have b3 := nxt_lt (l := l) (k := k + 2) (n := 3) (by omega)
      generalize nxt l (k + 2) 3 = x at *
      simp only [Bool.not_eq_true] at ht0 hs0
      have hit : i < t.size := by omega
      have hjs : j < s.size := by omega
      have hu8 : s[j].toNat < 256 := by have := UInt8.toNat_lt s[j]; omega
      have henc := enc_size ((s[j].toNat : Nat) : Int)
      clear hi hj pos H1
      go_enter Tryz.func90, Tryz.ntmps90
      go_wp2_with fail
      refine N1.out.mono ?_
      rintro e w1 ⟨rfl, hs1, hk1⟩
      go_wp2_with fail
      refine (N2.out _ hs1).mono ?_
      rintro e w2 ⟨rfl, hs2, hk2⟩
      go_wp2_with fail
      refine (N3.out _ hs2).mono ?_
      rintro e w3 ⟨rfl, hs3, hk3⟩
      have hkk : Kp (Sole b) w w3 := (hk1.then_ hk2).then_ hk3
      clear hs1 hs2 hk1 hk2 hk3
      rcases (show x = 0 ∨ x = 1 ∨ x = 2 by omega) with rfl | rfl | rfl
      · go_wp2_with fail
        go_quiet (fail)
        go_wp2_with fail
        go_ret
        exact ⟨⟨_, rfl, by simp only [ByteArray.size_append, ByteArray.size_extract]; omega⟩, ⟨k + 2 + 1, by omega, hs3.drewN _⟩, hkk.drewN _⟩
      · go_wp2_with fail
        go_quiet (fail)
        go_wp2_with fail
        go_ret
        exact ⟨⟨_, rfl, by simp only [ByteArray.size_append, ByteArray.size_extract]; omega⟩, ⟨k + 2 + 1, by omega, hs3.drewN _⟩, hkk.drewN _⟩
      · go_wp2_with fail
        go_quiet (fail)
        go_wp2_with fail
        go_ret
        exact ⟨⟨_, rfl, by simp only [ByteArray.size_append, ByteArray.size_extract]; omega⟩, ⟨k + 2 + 1, by omega, hs3.drewN _⟩, hkk.drewN _⟩
end Go.Proofs.YtcldaldfonfbgaaGreatDoor
