/- What the row's list and the world's shape give: the library's variables. -/
import Derived.Test.YtcldaldfonfbgaaGreatDoorC2
import Derived.Test.YtcldaldfonfbgaaGreatDoorRows
import Derived.Shelf.Vars
import Derived.Stop.LaidErr
import Derived.MakeChecks
import Derived.Lib.LaidTab
set_option linter.unusedVariables false
set_option linter.unusedSimpArgs false
namespace Go.Proofs.YtcldaldfonfbgaaGreatDoor
open Go.RowKit

theorem gMax : ((begin Tryz.prog (fun _ _ => 0) default).world.heap[2]?).bind Obj.row? = some (#[.int .i64 0], 3) := by kernel_rfl
theorem gPowType : (Tryz.prog.globals[3]?).map (·.type) = some 465 := by kernel_rfl
theorem cellsPow : Tryz.prog.cellsOf 465 = 20 := by kernel_rfl
theorem cellsU64 : Tryz.prog.cellsOf 334 = 1 := by kernel_rfl
theorem gErrS : Tryz.prog.globalNamed "strconv.ErrSyntax" = some 0 := by kernel_rfl
theorem gErrR : Tryz.prog.globalNamed "strconv.ErrRange" = some 1 := by kernel_rfl
theorem gErrSType : (Tryz.prog.globals[0]?).map (·.type) = some 158 := by kernel_rfl
theorem gErrRType : (Tryz.prog.globals[1]?).map (·.type) = some 158 := by kernel_rfl
theorem cellsES : Tryz.prog.cellsOf 470 = 1 := by kernel_rfl
theorem cellsStr : Tryz.prog.cellsOf 9 = 1 := by kernel_rfl
theorem starES : "*" ++ "errors.errorString" = "*errors.errorString" := by decide
theorem rowES (u : TypeId) (h : Tryz.prog.typeName? 3 u = some "*errors.errorString") : u = 468 :=
  typeName_ptr_named (nm := "errors.errorString") (by rw [starES]; kernel_rfl) (by kernel_rfl) (by decide) u (by rw [starES]; exact h)

theorem env_of {W : World} {r1 r2 : List (String × DataW Unit)} (hL : laidMet Tryz.prog (("internal/strconv.uint64pow10", Rows.laid_internal_strconv_uint64pow10) :: r1) W)
    (hL2 : laidMet Tryz.prog (("strconv.ErrRange", Rows.laid_strconv_ErrRange) :: ("strconv.ErrSyntax", Rows.laid_strconv_ErrSyntax) :: r2) W) (hS : W.ShapedOpen Tryz.prog) : Env W := by
  have hmax := cell_of_shapedOpen_int hS (of_decide_eq_true (by kernel_rfl)) gMax rfl (by kernel_rfl) (by kernel_rfl) Tryz.underlying3
  obtain ⟨a, s, hv, _⟩ := laid_sentinel hL2 gErrR gErrRType Tryz.underlying158 rowES Tryz.underlying468 Tryz.underlying470 rfl rfl Tryz.underlying9 cellsES cellsStr
  obtain ⟨a2, s2, hv2, _⟩ := laid_sentinel hL2.tail gErrS gErrSType Tryz.underlying158 rowES Tryz.underlying468 Tryz.underlying470 rfl rfl Tryz.underlying9 cellsES cellsStr
  have hpow := Lib.tabIs_of_head (k := .u64) (zs := Lib.pow10Tab) g_pow10 gPowType Tryz.underlying465 Tryz.underlying334 cellsU64 cellsPow hL
  have c0 := World.var?_cell g_pow10 hpow 0
  have c1 := World.var?_cell gErrR hv 0
  have c2 := World.var?_cell gErrS hv2 0
  obtain ⟨m, hm⟩ := hmax
  have l0 := World.block_lt_of_cell? _ _ (c0.trans rfl)
  have l1 := World.block_lt_of_cell? _ _ (c1.trans rfl)
  have l2 := World.block_lt_of_cell? _ _ (c2.trans rfl)
  have l3 := World.block_lt_of_cell? _ _ hm
  refine ⟨hpow, ⟨m, hm⟩, ⟨_, c2.trans rfl, .inr ⟨_, _, rfl⟩⟩, ⟨_, c1.trans rfl, .inr ⟨_, _, rfl⟩⟩, ?_⟩
  simp only [gl, List.foldl] at l0 l1 l2 l3 ⊢
  simp only [Nat.max_def]
  repeat' split
  all_goals omega
end Go.Proofs.YtcldaldfonfbgaaGreatDoor
