/- The closure of the reference's BinsRead. -/
import Derived.Test.YtcldaldfonfbgaaGreatDoorE6
set_option linter.unusedVariables false
set_option linter.unusedSimpArgs false
namespace Go.Proofs.YtcldaldfonfbgaaGreatDoor
open Go.RowKit

def AtoiP (l : List UInt8) (e : Ending) : Prop := match Lib.atoiAll l with
  | .ok n => e = .returned (.tuple #[.int .i64 n, .nilIface])
  | _ => ∃ v N, e = .returned (.tuple #[.int .i64 v, .iface 369 (.pointer (some ⟨N, 0, none⟩))])
theorem atoi_any (l : List UInt8) (w : World) (he : Env w) (hl : l.length ≤ 1000000) :
    Calls Tryz.prog 107 #[.string (bs l)] w fun e w' => AtoiP l e ∧ Kp Non w w' := by
  have hbl : (bs l).size = l.length := rfl
  unfold AtoiP
  rcases ha : Lib.atoiAll l with v | _ | _
  ·
    refine (Tryz.strconv_Atoi_ok (bs l) (by rw [hbl]; omega) v (by rw [show (bs l).data.toList = l by simp [bs]]; exact ha) w).mono ?_
    rintro e w2 ⟨rfl, hw⟩
    refine ⟨rfl, ?_⟩
    rcases hw with rfl | ⟨t, rfl⟩
    · exact Kp.refl _ _
    · exact Kp.of_below (Joins.below_bytesWorld _ _ _ _ (Nat.le_refl _))
  ·
    obtain ⟨ev, hev, hev2⟩ := he.errS
    refine (Tryz.strconv_Atoi_syntax (bs l) (by rw [hbl]; omega) (by rw [show (bs l).data.toList = l by simp [bs]]; exact ha) ev w hev hev2).mono ?_
    rintro e w2 ⟨N, rfl, _, _, hw⟩
    exact ⟨⟨_, _, rfl⟩, Kp.of_below hw⟩
  ·
    obtain ⟨ev, hev, hev2⟩ := he.errR
    refine (Tryz.strconv_Atoi_range (bs l) (by rw [hbl]; omega) (by rw [show (bs l).data.toList = l by simp [bs]]; exact ha) ev w hev hev2).mono ?_
    rintro e w2 ⟨N, rfl, _, _, hw⟩
    exact ⟨⟨_, _, rfl⟩, Kp.of_below hw⟩

set_option maxHeartbeats 8000000 in
set_option maxRecDepth 100000 in
theorem qread1_any (p i : Nat) (s : List Bin) (l : List UInt8) (w : World) (hI : BinI p i s w) (hi : i ≤ 200001) (hl : l.length ≤ 200001) (hp : gl ≤ p) :
    Calls Tryz.prog 105 #[.string (bs l), .pointer (some ⟨p, 0, none⟩)] w
      fun e w' => e = .returned (.bool (stBin s l).1) ∧ BinI p (i + 1) (stBin s l).2 w' ∧ KO p 39 w w' := by
  obtain ⟨m, hmx⟩ := hI.env.maxLen
  have hsp := splitB_sp 32 (bs l)
  have hct := countB_sp 32 (bs l)
  have e1 : (bs l).data.toList = l := by simp [bs]
  rw [e1] at hsp hct
  have CP := Tryz.strings_Split (bs l) ⟨#[32]⟩ m w (by show l.length < _; omega) hmx (by decide)
  rw [hsp, hct] at CP
  have hlen := sp_len 32 l
  have hml := sp_mem_len 32 l
  obtain ⟨L, hL⟩ : ∃ L, L = sp 32 l := ⟨_, rfl⟩
  rw [← hL] at CP hlen hml
  have HCP := Lib.hid CP
  have HLE := Lib.hid hL
  have HML := Lib.hid hml
  have hx := blk_new w ((L.map bs).map Value.string).toArray 9
  have hrd := Rd.strs hx (by rw [List.length_map]; unfold maxLen; omega)
  rw [List.length_map] at hrd
  have HRD := Lib.hid hrd
  have hk1 : Kp Non w (w.alloc (.cells ((L.map bs).map Value.string).toArray 9)) := (Kp.refl _ _).alloc _
  have HK1 := Lib.hid hk1
  have HI := Lib.hid hI
  have hsl := hI.len
  clear hI
  have wk := fun (s : List Bin) (i : Nat) (w w' : World) (hI : BinI p i s w) (hk : Kp Non w w') => (show BinI p (i + 1) s w' from ⟨(hI.kp0 hk).env, Nat.le_succ_of_le hI.len, (hI.kp0 hk).row⟩)
  have WK := Lib.hid wk
  clear wk CP hsp hct e1 hL hmx hx hrd hk1 hml
  generalize w.alloc (.cells ((L.map bs).map Value.string).toArray 9) = wq at *
  by_cases h6 : L.length = 6
  · have hpb : parseBin l = (numsO num L).bind bin6 := by unfold parseBin; rw [HLE.out]
    have HPB := Lib.hid hpb
    have H6 := Lib.hid h6
    have hcp := HCP.out
    rw [h6] at hcp
    have HCP6 := Lib.hid hcp
    have hrd := HRD.out
    rw [h6] at hrd
    have HRD6 := Lib.hid hrd
    have hPB : Hid (∀ (o : Option (List Int)), numsO num L = o → parseBin l = o.bind bin6) := Lib.hid (fun o ho => by rw [hpb, ho])
    clear hpb h6 hcp hrd HCP HRD
    obtain ⟨R, hR⟩ : ∃ R, R = stBin s l := ⟨_, rfl⟩
    rw [← hR]
    have HR := Lib.hid hR
    clear hR
    go_enter Tryz.func105, Tryz.ntmps105
    go_wp2_with fail
    refine HCP6.out.mono ?_
    rintro e w1 ⟨rfl, rfl⟩
    go_wp2_with fail
    go_loopg [5, 17] 6 (fun k s5 s17 wr => ∃ (j : Nat) (A' : Option Addr) (c' : Nat) (ns : List Int), j + k = 6 ∧ s17 = .int .i64 j ∧ ns.length = j ∧ s5 = .slice A' j c' ∧ Owns eInt 3 wr w1.heap.size A' c' ns ∧ Kp Non w1 wr ∧ numsO num L = (numsO num (L.drop j)).map (ns ++ ·))
    case atStart => exact ⟨0, none, 0, [], by omega, rfl, rfl, rfl, Owns.nil _ _ _ _, Kp.refl _ _, by simp⟩
    case round =>
      obtain ⟨j, A', c', ns, hj, rfl, hnl, rfl, hown, hk, hnums⟩ := hrel
      have HO := Lib.hid hown
      have HNUM := Lib.hid hnums
      have HNL := Lib.hid hnl
      have hkk : Kp Non w wr := HK1.out.then_ hk
      clear hown hnums hnl
      by_cases hjn : j < 6
      · obtain ⟨x, hxl⟩ : ∃ x, L[j]? = some x := ⟨_, List.getElem?_eq_getElem (by have := H6.out; omega)⟩
        have hxx := HML.out x (List.mem_of_getElem? hxl)
        have hcell := strs_cells (HRD6.out.kp0 hk) j (bs x) (by rw [List.getElem?_map, hxl]; rfl)
        rw [Nat.zero_add] at hcell
        have NA := Lib.hid (atoi_any x wr (HI.out.env.kp0 hkk) (by omega))
        have HLL := Lib.hid hxl
        have stop : num x = none → R = (false, s) := by
          intro hn
          have h1 := hPB.out none (numsO_stop HNUM.out HLL.out hn)
          rw [HR.out]; unfold stBin; rw [h1]; rfl
        have STOP := Lib.hid stop
        clear hxl stop
        by_cases hok : ∃ v, Lib.atoiAll x = .ok v
        · obtain ⟨v, hv⟩ := hok
          have hvb := Lib.atoiAll_bounds hv
          obtain ⟨S, hS⟩ : ∃ S, S = bs (Lib.itoa v) := ⟨_, rfl⟩
          have IT := fun W (hW : Env W) => itoa_any v hvb W hW
          have hS2 : (⟨(Lib.itoa v).toArray⟩ : ByteArray) = S := hS.symm
          rw [hS2] at IT
          have HIT := Lib.hid IT
          have HV := Lib.hid hv
          have HS := Lib.hid hS
          clear hv IT hS hS2
          by_cases hiv : Lib.itoa v = x
          · have hq : (S.toList == (bs x).toList) = true := by rw [HS.out, hiv]; simp
            have hnum : num x = some v := by unfold num; rw [HV.out]; simp [hiv]
            have hstep := numsO_step HNUM.out HLL.out hnum
            have HSTEP := Lib.hid hstep
            clear hnum hstep hiv
            go_wp2_with fail
            refine NA.out.mono ?_
            rintro e w2 ⟨hP, hk2⟩
            unfold AtoiP at hP
            rw [HV.out] at hP
            obtain rfl := hP
            have hkk2 := hkk.then_ hk2
            have hk12 := hk.then_ hk2
            have he2 := HI.out.env.kp0 hkk2
            go_wp2_with fail
            refine (HIT.out _ he2).mono ?_
            rintro e w3 ⟨rfl, hk3⟩
            go_wp2_with (at_builtin; refine wp_append1 rfl _ _ 22 3 rfl eInt 8 ety_Int Tryz.underlying22 w1.heap.size A' c' j _ v _ _ _ HNL.out rfl rfl ?c0 ?c1 ?c2 (by omega) (by omega) ?c3 ?c4)
            case c0 => simp
            case c1 => rfl
            case c2 => exact (HO.out.kp0 hk2).kp0 hk3
            case c3 => have h1 := hk12.size; have h2 := hk3.size; omega
            case c4 =>
            intro A5 c5 w5 ho5 hk5 hg5
            have hk05 := Kp.own (S := Non) (w0 := w1) (hk12.then_ hk3) hk5 (Nat.le_refl _)
            have HO5 := Lib.hid ho5
            clear ho5 hk5 hg5
            go_wp2_with fail
            go_roundg (gk - 1)
            case measure => omega
            case rel => exact ⟨j + 1, A5, c5, ns ++ [v], by omega, by go_num, by simp [HNL.out], rfl, HO5.out, hk05, HSTEP.out⟩
          · have hq : (S.toList == (bs x).toList) = false := by
              rw [HS.out, ByteArray.toList_eq, ByteArray.toList_eq]
              simpa [bs] using hiv
            have hRn := STOP.out (by unfold num; rw [HV.out]; simp [hiv])
            clear hiv
            go_wp2_with fail
            refine NA.out.mono ?_
            rintro e w2 ⟨hP, hk2⟩
            unfold AtoiP at hP
            rw [HV.out] at hP
            obtain rfl := hP
            have hkk2 := hkk.then_ hk2
            have he2 := HI.out.env.kp0 hkk2
            go_wp2_with fail
            refine (HIT.out _ he2).mono ?_
            rintro e w3 ⟨rfl, hk3⟩
            have hk03 := hkk2.then_ hk3
            have hII := WK.out _ _ _ _ HI.out hk03
            go_wp2_with fail
            go_ret
            rw [hRn]
            exact ⟨rfl, hII, KO.of0 hk03⟩
        · have hnok : ∀ e, AtoiP x e → ∃ v N, e = .returned (.tuple #[.int .i64 v, .iface 369 (.pointer (some ⟨N, 0, none⟩))]) := by
            intro e he
            unfold AtoiP at he
            split at he
            · rename_i n hn
              exact absurd ⟨n, hn⟩ hok
            · exact he
          have hRn := STOP.out (by
            unfold num
            split
            · rename_i n hn
              exact absurd ⟨n, hn⟩ hok
            · rfl)
          have HNOK := Lib.hid hnok
          clear hok hnok
          go_wp2_with fail
          refine NA.out.mono ?_
          rintro e w2 ⟨hP, hk2⟩
          obtain ⟨v, N, rfl⟩ := HNOK.out _ hP
          have hk02 := hkk.then_ hk2
          have hII := WK.out _ _ _ _ HI.out hk02
          clear hP
          go_wp2_with fail
          go_ret
          rw [hRn]
          exact ⟨rfl, hII, KO.of0 hk02⟩
      · obtain rfl : j = 6 := by omega
        have hnn : numsO num L = some ns := by
          rw [HNUM.out, List.drop_eq_nil_of_le (by have := H6.out; omega)]
          simp [numsO]
        have hnl := HNL.out
        obtain ⟨b, hb⟩ := bin6_six hnl
        have hst : R = (true, s ++ [b]) := by
          rw [HR.out]; unfold stBin; rw [hPB.out _ hnn]; show (match bin6 ns with | some b => (true, s ++ [b]) | none => (false, s)) = _; rw [hb]
        subst hst
        have hns := bin6_len hb
        have HNS := Lib.hid hns
        have hrd2 := HO.out.rd
        rw [hnl] at hrd2
        have hgb2 := fun a ha => (HO.out.block a ha).1
        obtain ⟨w2, hw2⟩ : ∃ w2, w2 = wr := ⟨_, rfl⟩
        subst hw2
        obtain ⟨A3, c3, hbk0, hown0⟩ := HI.out.row
        have hbk := hkk.obj (non_not _) hbk0
        have hown := hown0.kp0 hkk
        obtain ⟨g, o, rfl, hat⟩ := hrd2.at (by omega)
        have hgb : w1.heap.size ≤ g := hgb2 _ rfl
        have hlt2 : g < w2.heap.size := hrd2.lt (by omega) _ rfl
        have hw01 := HK1.out.size
        clear hnn hb hns
        have hc : ∀ j (hj : j < 6) (v : Int), ns[j]? = some v → w2.cell? ⟨g, o + j, none⟩ = some (.int .i64 v) := by
          intro j hj v hv
          obtain ⟨h1, h2⟩ := List.getElem?_eq_some_iff.1 hv
          have := hat j 0 h1 (.int .i64 v) (by rw [h2]; rfl)
          simpa [eInt] using this
        rw [HNS.out] at hc
        have hc0 := hc 0 (by omega) b.frm rfl
        have hc1 := hc 1 (by omega) b.sum rfl
        have hc2 := hc 2 (by omega) b.cnt rfl
        have hc3 := hc 3 (by omega) b.oth rfl
        have hc4 := hc 4 (by omega) b.low rfl
        have hc5 := hc 5 (by omega) b.high rfl
        rw [Nat.add_zero] at hc0
        have hp0 := blk_cell hbk 0 rfl
        have hplt := blk_lt hbk
        have hpw : p < w.heap.size := by obtain ⟨_, _, hb, _⟩ := HI.out.row; exact blk_lt hb
        have hgp : g ≠ p := by have := hkk.size; omega
        have hAg : some g ≠ (Value.slice A3 s.length c3).ownBlock := by
          cases A3 with
          | none => simp [Value.ownBlock]
          | some a =>
            have := (hown0.block a rfl).2.1
            simp [Value.ownBlock]
            omega
        have HBK := Lib.hid hbk
        have HOWN := Lib.hid hown
        have HKK := Lib.hid hkk
        have HAG := Lib.hid hAg
        clear hc hat hrd2 hbk hown hkk hAg hgb2 hbk0 hown0
        go_wp2_with fail
        have hSx : ∀ W : World, (W.heap[g]? = w2.heap[g]?) → W.cell? ⟨g, o, none⟩ = some (.int .i64 b.frm) ∧ W.cell? ⟨g, o + 1, none⟩ = some (.int .i64 b.sum) ∧ W.cell? ⟨g, o + 2, none⟩ = some (.int .i64 b.cnt) ∧ W.cell? ⟨g, o + 3, none⟩ = some (.int .i64 b.oth) ∧ W.cell? ⟨g, o + 4, none⟩ = some (.int .i64 b.low) ∧ W.cell? ⟨g, o + 5, none⟩ = some (.int .i64 b.high) := by
          intro W hW
          have hx : ∀ j, W.cell? ⟨g, j, none⟩ = w2.cell? ⟨g, j, none⟩ := fun j => World.cell?_of_block hW
          rw [hx, hx, hx, hx, hx, hx]
          exact ⟨hc0, hc1, hc2, hc3, hc4, hc5⟩
        obtain ⟨wa, hwa⟩ : ∃ wa, wa = (w2.alloc (.cells #[.int .i64 b.frm, .int .i64 b.sum, .int .i64 b.cnt, .int .i64 b.oth, .int .i64 b.low, .int .i64 b.high] 39)).drew := ⟨_, rfl⟩
        have hka : Kp Non w2 wa := by rw [hwa]; exact ((Kp.refl _ _).alloc _).drewN 1
        have hlit : wa.heap[w2.heap.size]? = some (.cells #[.int .i64 b.frm, .int .i64 b.sum, .int .i64 b.cnt, .int .i64 b.oth, .int .i64 b.low, .int .i64 b.high] 39 (0, 0)) := by rw [hwa]; exact blk_new w2 _ _
        have hwg : wa.heap[g]? = w2.heap[g]? := hka.block g hlt2 (non_not _)
        have hfar : ∀ (W : World) (v : Value) (j : Nat), (W.setCell ⟨p, 0, none⟩ v).cell? ⟨g, j, none⟩ = W.cell? ⟨g, j, none⟩ := fun W v j => World.cell?_of_block (Below.heap_setCell _ _ _ _ hgp)
        have HLIT := Lib.hid hlit
        have HSX := Lib.hid hSx
        have HWG := Lib.hid hwg
        have HKA := Lib.hid hka
        have hbs : p + 1 ≤ wa.heap.size := by have := hka.size; omega
        have HWA := Lib.hid hwa
        clear hSx hwg hka hlit hwa
        refine wp_region_held_drew (S := (fun w' => w'.cell? ⟨g, o, none⟩ = some (.int .i64 b.frm) ∧ w'.cell? ⟨g, o + 1, none⟩ = some (.int .i64 b.sum) ∧ w'.cell? ⟨g, o + 2, none⟩ = some (.int .i64 b.cnt) ∧ w'.cell? ⟨g, o + 3, none⟩ = some (.int .i64 b.oth) ∧ w'.cell? ⟨g, o + 4, none⟩ = some (.int .i64 b.low) ∧ w'.cell? ⟨g, o + 5, none⟩ = some (.int .i64 b.high))) (by kernel_rfl) ?_ (fun hHeld => ?_)
        · (try dsimp only); (first | go_keep | assumption)
        refine wpAnyH_take (i := 1) (oi := _) (v := ?_) rfl (by kernel_rfl) (by kernel_rfl) (by kernel_rfl) (fun _ _ _ h => h) (Or.inl ⟨by rfl, ?_⟩) (by assumption) ?_
        rotate_left
        · intro w hSw; (try dsimp only at hSw); go_simp; try (with_reducible rfl)
        try simp only [Act.put, List.setIfInBounds_toArray, List.set_cons_zero, List.set_cons_succ]
        refine wpAnyH_take (i := 2) (oi := _) (v := ?_) rfl (by kernel_rfl) (by kernel_rfl) (by kernel_rfl) (fun _ _ _ h => h) (Or.inl ⟨by rfl, ?_⟩) (by assumption) ?_
        rotate_left
        · intro w hSw; (try dsimp only at hSw); go_simp; try (with_reducible rfl)
        try simp only [Act.put, List.setIfInBounds_toArray, List.set_cons_zero, List.set_cons_succ]
        refine wpAnyH_take (i := 3) (oi := _) (v := ?_) rfl (by kernel_rfl) (by kernel_rfl) (by kernel_rfl) (fun _ _ _ h => h) (Or.inl ⟨by rfl, ?_⟩) (by assumption) ?_
        rotate_left
        · intro w hSw; (try dsimp only at hSw); go_simp; try (with_reducible rfl)
        try simp only [Act.put, List.setIfInBounds_toArray, List.set_cons_zero, List.set_cons_succ]
        refine wpAnyH_take (i := 4) (oi := _) (v := ?_) rfl (by kernel_rfl) (by kernel_rfl) (by kernel_rfl) (fun _ _ _ h => h) (Or.inl ⟨by rfl, ?_⟩) (by assumption) ?_
        rotate_left
        · intro w hSw; (try dsimp only at hSw); go_simp; try (with_reducible rfl)
        try simp only [Act.put, List.setIfInBounds_toArray, List.set_cons_zero, List.set_cons_succ]
        refine wpAnyH_take (i := 5) (oi := _) (v := ?_) rfl (by kernel_rfl) (by kernel_rfl) (by kernel_rfl) (fun _ _ _ h => h) (Or.inl ⟨by rfl, ?_⟩) (by assumption) ?_
        rotate_left
        · intro w hSw; (try dsimp only at hSw); go_simp; try (with_reducible rfl)
        try simp only [Act.put, List.setIfInBounds_toArray, List.set_cons_zero, List.set_cons_succ]
        refine wpAnyH_take (i := 6) (oi := _) (v := ?_) rfl (by kernel_rfl) (by kernel_rfl) (by kernel_rfl) (fun _ _ _ h => h) (Or.inl ⟨by rfl, ?_⟩) (by assumption) ?_
        rotate_left
        · intro w hSw; (try dsimp only at hSw); go_simp; try (with_reducible rfl)
        try simp only [Act.put, List.setIfInBounds_toArray, List.set_cons_zero, List.set_cons_succ]
        refine wpAnyH_take (i := 7) (oi := _) (v := ?_) rfl (by kernel_rfl) (by kernel_rfl) (by kernel_rfl) (fun _ _ _ h => h) (Or.inl ⟨by rfl, ?_⟩) (by assumption) ?_
        rotate_left
        · intro w hSw; (try dsimp only at hSw); go_simp; try (with_reducible rfl)
        try simp only [Act.put, List.setIfInBounds_toArray, List.set_cons_zero, List.set_cons_succ]
        refine wpAnyH_take (i := 8) (oi := _) (v := ?_) rfl (by kernel_rfl) (by kernel_rfl) (by kernel_rfl) (fun _ _ _ h => h) (Or.inl ⟨by rfl, ?_⟩) (by assumption) ?_
        rotate_left
        · intro w hSw; (try dsimp only at hSw); go_simp; try (with_reducible rfl)
        try simp only [Act.put, List.setIfInBounds_toArray, List.set_cons_zero, List.set_cons_succ]
        refine wpAnyH_take (i := 9) (oi := _) (v := ?_) rfl (by kernel_rfl) (by kernel_rfl) (by kernel_rfl) (fun _ _ _ h => h) (Or.inl ⟨by rfl, ?_⟩) (by assumption) ?_
        rotate_left
        · intro w hSw; (try dsimp only at hSw); go_simp; try (with_reducible rfl)
        try simp only [Act.put, List.setIfInBounds_toArray, List.set_cons_zero, List.set_cons_succ]
        refine wpAnyH_take (i := 10) (oi := _) (v := ?_) rfl (by kernel_rfl) (by kernel_rfl) (by kernel_rfl) (fun _ _ _ h => h) (Or.inl ⟨by rfl, ?_⟩) (by assumption) ?_
        rotate_left
        · intro w hSw; (try dsimp only at hSw); go_simp; try (with_reducible rfl)
        try simp only [Act.put, List.setIfInBounds_toArray, List.set_cons_zero, List.set_cons_succ]
        refine wpAnyH_take (i := 11) (oi := _) (v := ?_) rfl (by kernel_rfl) (by kernel_rfl) (by kernel_rfl) (fun _ _ _ h => h) (Or.inl ⟨by rfl, ?_⟩) (by assumption) ?_
        rotate_left
        · intro w hSw; (try dsimp only at hSw); go_simp; try (with_reducible rfl)
        try simp only [Act.put, List.setIfInBounds_toArray, List.set_cons_zero, List.set_cons_succ]
        refine wpAnyH_take (i := 12) (oi := _) (v := ?_) rfl (by kernel_rfl) (by kernel_rfl) (by kernel_rfl) (fun _ _ _ h => h) (Or.inl ⟨by rfl, ?_⟩) (by assumption) ?_
        rotate_left
        · intro w hSw; (try dsimp only at hSw); go_simp; try (with_reducible rfl)
        try simp only [Act.put, List.setIfInBounds_toArray, List.set_cons_zero, List.set_cons_succ]
        refine wpAnyH_take (i := 13) (oi := _) (v := ?_) rfl (by kernel_rfl) (by kernel_rfl) (by kernel_rfl) (fun _ _ _ h => h) (Or.inl ⟨by rfl, ?_⟩) (by assumption) ?_
        rotate_left
        · intro w hSw; (try dsimp only at hSw); go_simp; try (with_reducible rfl)
        try simp only [Act.put, List.setIfInBounds_toArray, List.set_cons_zero, List.set_cons_succ]
        refine wpAnyH_take (i := 14) (oi := _) (v := ?_) rfl (by kernel_rfl) (by kernel_rfl) (by kernel_rfl) (fun _ _ _ h => h) (Or.inl ⟨by rfl, ?_⟩) (by assumption) ?_
        rotate_left
        · intro w hSw; (try dsimp only at hSw); go_simp; try (with_reducible rfl)
        try simp only [Act.put, List.setIfInBounds_toArray, List.set_cons_zero, List.set_cons_succ]
        refine wpAnyH_take (i := 15) (oi := _) (v := ?_) rfl (by kernel_rfl) (by kernel_rfl) (by kernel_rfl) (fun _ _ _ h => h) (Or.inl ⟨by rfl, ?_⟩) (by assumption) ?_
        rotate_left
        · intro w hSw; (try dsimp only at hSw); go_simp; try (with_reducible rfl)
        try simp only [Act.put, List.setIfInBounds_toArray, List.set_cons_zero, List.set_cons_succ]
        refine wpAnyH_take (i := 16) (oi := _) (v := ?_) rfl (by kernel_rfl) (by kernel_rfl) (by kernel_rfl) (fun _ _ _ h => h) (Or.inl ⟨by rfl, ?_⟩) (by assumption) ?_
        rotate_left
        · intro w hSw; (try dsimp only at hSw); go_simp; try (with_reducible rfl)
        try simp only [Act.put, List.setIfInBounds_toArray, List.set_cons_zero, List.set_cons_succ]
        refine wpAnyH_take (i := 17) (oi := _) (v := ?_) rfl (by kernel_rfl) (by kernel_rfl) (by kernel_rfl) (fun _ _ _ h => h) (Or.inl ⟨by rfl, ?_⟩) (by assumption) ?_
        rotate_left
        · intro w hSw; (try dsimp only at hSw); go_simp; try (with_reducible rfl)
        try simp only [Act.put, List.setIfInBounds_toArray, List.set_cons_zero, List.set_cons_succ]
        refine wpAnyH_take (i := 18) (oi := _) (v := ?_) rfl (by kernel_rfl) (by kernel_rfl) (by kernel_rfl) (fun _ _ _ h => h) (Or.inl ⟨by rfl, ?_⟩) (by assumption) ?_
        rotate_left
        · intro w hSw; (try dsimp only at hSw); go_simp; try (with_reducible rfl)
        try simp only [Act.put, List.setIfInBounds_toArray, List.set_cons_zero, List.set_cons_succ]
        refine wpAnyH_take (i := 19) (oi := _) (v := ?_) rfl (by kernel_rfl) (by kernel_rfl) (by kernel_rfl) (fun _ _ _ h => h) (Or.inl ⟨by rfl, ?_⟩) (by assumption) ?_
        rotate_left
        · intro w hSw; (try dsimp only at hSw); go_simp; try (with_reducible rfl)
        try simp only [Act.put, List.setIfInBounds_toArray, List.set_cons_zero, List.set_cons_succ]
        refine wpAnyH_ready (rs := [0, 20]) (by kernel_rfl) (by simp) ?_
        refine AllReadyH.cons rfl (fun K hK => ?_) (AllReadyH.cons rfl (fun K hK => ?_) AllReadyH.nil)
        rotate_left
        go_simp
        refine hK.out _ _ ?_ (fun hHeld => ?_)
        · (try dsimp only); (first | go_keep | assumption)
        clear hK K
        refine wpAnyH_ready (rs := [0]) (by kernel_rfl) (by simp) ?_
        refine AllReadyH.cons rfl (fun K hK => ?_) AllReadyH.nil
        go_simp
        refine hK.out _ _ ?_ (fun hHeld => ?_)
        · (try dsimp only); (first | go_keep | assumption)
        clear hK K
        refine wpAnyH_ready (rs := [21]) (by kernel_rfl) (by simp) ?_
        refine AllReadyH.cons rfl (fun K hK => ?_) AllReadyH.nil
        rw [← HWA.out]; refine step_append1 rfl (.tmp 39) (.tmp 59) 27 39 rfl eBin 48 ety_Bin Tryz.underlying27 (p + 1) A3 c3 s.length s b _ w2.heap.size 1 rfl (by simp [Act.eval, Act.put]) (by simp [Act.eval, Act.put]) HLIT.out rfl (HOWN.out.kp0 HKA.out) (by omega) (by omega) hbs ?_; intro A5 c5 w5 ho5 hk5 hg5; have hS5 := HSX.out w5 ((hg5.block g (Nat.lt_of_lt_of_le hlt2 HKA.out.size) HAG.out).trans HWG.out); have hb5 := hk5.obj (show ¬ Abv (p + 1) p from Nat.not_succ_le_self p) (HKA.out.obj (non_not _) HBK.out); have hf5 := blk_free hb5 0; have hq5 := blk_cell hb5 0 rfl; obtain ⟨hx0, hx1, hx2, hx3, hx4, hx5⟩ := hS5
        refine hK.out _ _ ?_ (fun hHeld => ?_)
        · (try dsimp only); (first | go_keep | assumption)
        clear hK K
        refine wpAnyH_ready (rs := [22]) (by kernel_rfl) (by simp) ?_
        refine AllReadyH.cons rfl (fun K hK => ?_) AllReadyH.nil
        go_simp
        refine hK.out _ _ ?_ (fun hHeld => ?_)
        · (try dsimp only); (first | go_keep | assumption)
        clear hK K
        refine wpAnyH_done (by kernel_rfl) ?_ _
        rotate_left
        go_simp
        refine hK.out _ _ ?_ (fun hHeld => ?_)
        · (try dsimp only); (first | go_keep | assumption)
        clear hK K
        refine wpAnyH_ready (rs := [20]) (by kernel_rfl) (by simp) ?_
        refine AllReadyH.cons rfl (fun K hK => ?_) AllReadyH.nil
        go_simp
        refine hK.out _ _ ?_ (fun hHeld => ?_)
        · (try dsimp only); (first | go_keep | assumption)
        clear hK K
        refine wpAnyH_ready (rs := [21]) (by kernel_rfl) (by simp) ?_
        refine AllReadyH.cons rfl (fun K hK => ?_) AllReadyH.nil
        rw [← HWA.out]; refine step_append1 rfl (.tmp 39) (.tmp 59) 27 39 rfl eBin 48 ety_Bin Tryz.underlying27 (p + 1) A3 c3 s.length s b _ w2.heap.size 1 rfl (by simp [Act.eval, Act.put]) (by simp [Act.eval, Act.put]) HLIT.out rfl (HOWN.out.kp0 HKA.out) (by omega) (by omega) hbs ?_; intro A5 c5 w5 ho5 hk5 hg5; have hS5 := HSX.out w5 ((hg5.block g (Nat.lt_of_lt_of_le hlt2 HKA.out.size) HAG.out).trans HWG.out); have hb5 := hk5.obj (show ¬ Abv (p + 1) p from Nat.not_succ_le_self p) (HKA.out.obj (non_not _) HBK.out); have hf5 := blk_free hb5 0; have hq5 := blk_cell hb5 0 rfl; obtain ⟨hx0, hx1, hx2, hx3, hx4, hx5⟩ := hS5
        refine hK.out _ _ ?_ (fun hHeld => ?_)
        · (try dsimp only); (first | go_keep | assumption)
        clear hK K
        refine wpAnyH_ready (rs := [22]) (by kernel_rfl) (by simp) ?_
        refine AllReadyH.cons rfl (fun K hK => ?_) AllReadyH.nil
        go_simp
        refine hK.out _ _ ?_ (fun hHeld => ?_)
        · (try dsimp only); (first | go_keep | assumption)
        clear hK K
        refine wpAnyH_done (by kernel_rfl) ?_ _
        all_goals
          have hko := ((KO.of0 (HKK.out.then_ HKA.out)).grown (HOWN.out.kp0 HKA.out) (Nat.le_succ p) hg5).self (p := ⟨p, 0, none⟩) rfl (.slice A5 (s.length + 1) c5)
          have hsz : (s ++ [b]).length = s.length + 1 := by simp
          have hii : BinI p (i + 1) (s ++ [b]) (w5.setCell ⟨p, 0, none⟩ (.slice A5 (s.length + 1) c5)) := by
            refine ⟨hko.env HI.out.env hp, by omega, A5, c5, ?_, ?_⟩
            · rw [hsz]; exact blk_set hb5 0 _
            · exact ho5.kpb (S := Sole p) ((Kp.refl (Sole p) w5).setCell (p := ⟨p, 0, none⟩) (.inl rfl) _) (by rintro i rfl; omega)
          clear hx0 hx1 hx2 hx3 hx4 hx5 ho5 hk5 hg5 hb5 hf5 hq5
          generalize w5.setCell ⟨p, 0, none⟩ (.slice A5 (s.length + 1) c5) = W6 at *
          go_wp2_with fail
          go_ret
          exact ⟨rfl, hii, hko⟩
  · have hpn : parseBin l = none := by
      unfold parseBin
      cases hn : numsO num (sp 32 l) with
      | none => rfl
      | some ns =>
        have hl := numsO_len hn
        show bin6 ns = none
        cases hb : bin6 ns with
        | none => rfl
        | some b =>
          have := bin6_len hb
          rw [this] at hl
          exact absurd (by rw [HLE.out]; exact hl.symm) h6
    have hst : stBin s l = (false, s) := by unfold stBin; rw [hpn]
    rw [hst]
    clear hst hpn
    go_enter Tryz.func105, Tryz.ntmps105
    go_wp2_with fail
    refine HCP.out.mono ?_
    rintro e w1 ⟨rfl, rfl⟩
    have hq : ((L.length : Int) == 6) = false := by simp; omega
    have hII := WK.out _ _ _ _ HI.out HK1.out
    go_wp2_with fail
    go_ret
    exact ⟨rfl, hII, KO.of0 HK1.out⟩
end Go.Proofs.YtcldaldfonfbgaaGreatDoor
