/- The law BinTexts: a world that fits, the row, the card. -/
import Derived.Test.YtcldaldfonfbgaaGreatDoorH2
import Derived.Test.YtcldaldfonfbgaaGreatDoorCards
import Derived.Test.YtcldaldfonfbgaaGreatDoorTie
import Derived.Deep.DeepHandedRow
import Derived.Deep.DeepLaidRun
set_option linter.unusedVariables false
set_option linter.unusedSimpArgs false
namespace Go.Proofs.YtcldaldfonfbgaaGreatDoor
open Go.ChangeShapes Go.WideShapes Go.ChangeAt Go.RowKit

def litsOf : DataW Unit → List Value
  | .agg xs => xs.filterMap fun d => match d with
    | .lit (.int k z) => some (.int k z)
    | _ => none
  | _ => []
def litsOf2 : DataW Unit → List Value
  | .agg xs => xs.flatMap litsOf
  | _ => []
def putCells (h : Array Obj) (i : Nat) (cs : List Value) : Array Obj := h.modify i fun
  | .cells _ t frozen => .cells cs.toArray t frozen
  | o => o
noncomputable def lowN : Nat := (World.holding Tryz.prog default ⟨#[], #[], []⟩).heap.size
noncomputable def laidWorld (os : Os) : World :=
  let w0 := World.holding Tryz.prog os ⟨#[.cells #[.string ⟨#[105, 110, 118, 97, 108, 105, 100, 32, 115, 121, 110, 116, 97, 120]⟩] 470, .cells #[.string ⟨#[118, 97, 108, 117, 101, 32, 111, 117, 116, 32, 111, 102, 32, 114, 97, 110, 103, 101]⟩] 470], #[], []⟩
  let h1 := putCells w0.heap 0 [.iface 468 (.pointer (some ⟨lowN, 0, none⟩))]
  let h2 := putCells h1 1 [.iface 468 (.pointer (some ⟨lowN + 1, 0, none⟩))]
  let h3 := putCells h2 3 (litsOf Rows.laid_internal_strconv_uint64pow10)
  let h4 := putCells h3 4 (litsOf Rows.laid_unicode_utf8_first)
  let h5 := putCells h4 5 (litsOf2 Rows.laid_unicode_utf8_acceptRanges)
  let h6 := putCells h5 6 (litsOf Rows.laid_math_bits_deBruijn32tab)
  let h7 := putCells h6 7 (litsOf Rows.laid_math_bits_deBruijn64tab)
  { w0 with heap := h7 }
abbrev inN : Input := ⟨#[], #[.slice none 0 0], []⟩

set_option maxRecDepth 100000 in
theorem laid_met (os : Os) : laidMet Tryz.prog Rows.binTextsRow.laid ((laidWorld os).forCall (fun _ _ => 0) inN).memory :=
  laidMet_of_run3 8 (by kernel_rfl) (by kernel_rfl) (by kernel_rfl)

theorem reads_ (os : Os) {H : Type} (enc : TypeId × Value → H) : ∃ places, DataW.whole enc Tryz.prog ((laidWorld os).forCall (fun _ _ => 0) inN).memory Tryz.f3.params.toList Rows.binTextsSpec.vars false #[Value.slice none 0 0].toList 8 = some ([.nil], [], places) :=
  ⟨[], by kernel_rfl⟩

set_option maxRecDepth 100000 in
theorem contract_ (H : Type) (enc : TypeId × Value → H) (W : World) (base : Nat) (args : Array Value) (ds gs : List (DataW H)) (before : List MemPlace)
    (hval : ∀ (j : Nat) t v, Tryz.f3.params[j]? = some t → args[j]? = some v → Value.okWide Tryz.prog W .any base t v)
    (hW : DataW.Whole enc Tryz.prog Tryz.f3.params.toList Rows.binTextsSpec.vars false W args.toList ds gs before)
    (hsz : (DataW.weightsEach Tryz.prog ([22] ++ []) (ds ++ gs)).all (· ≤ reachBytes) = true)
    (hL : laidMetH Tryz.prog Rows.binTextsRow.laid W) (hS : W.ShapedOpen Tryz.prog) :
    Calls Tryz.prog 3 args W fun e W' => ∃ v, e = .returned v ∧ Rows.binTextsSpec.post enc Tryz.prog Tryz.f3 false true false false W args v W' := by
  have hl : laidMet Tryz.prog Rows.binTextsRow.laid W := (MakeChecks.laidMetH_plain _ _ _ (by kernel_rfl)) ▸ hL
  have he : Env W := env_of (hl.tail.tail) (hl.tail.tail.tail.tail) hS
  exact list_contract H enc W base args ds gs before Tryz.params3 (by kernel_rfl) rfl (fun _ => rfl) hval hW hsz (fun A n c l hr hb hll hx => law_any A n c l W he hr hb hll hx)
end Go.Proofs.YtcldaldfonfbgaaGreatDoor
