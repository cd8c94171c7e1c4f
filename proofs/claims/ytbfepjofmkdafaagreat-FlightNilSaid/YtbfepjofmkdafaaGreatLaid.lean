/- Every type of the program is laid out: in parts (own work). -/
import Derived.Test.YtbfepjofmkdafaaGreatRows
import Derived.KernelRfl
namespace Go.Proofs.YtbfepjofmkdafaaGreat
open Go
theorem laid0 : (List.range' 0 52).all (rowFine Tryz.prog) = true := by kernel_rfl
theorem laid1 : (List.range' 52 52).all (rowFine Tryz.prog) = true := by kernel_rfl
theorem laid2 : (List.range' 104 52).all (rowFine Tryz.prog) = true := by kernel_rfl
theorem laid3 : (List.range' 156 52).all (rowFine Tryz.prog) = true := by kernel_rfl
theorem laid4 : (List.range' 208 52).all (rowFine Tryz.prog) = true := by kernel_rfl
theorem laid5 : (List.range' 260 52).all (rowFine Tryz.prog) = true := by kernel_rfl
theorem laid6 : (List.range' 312 52).all (rowFine Tryz.prog) = true := by kernel_rfl
theorem laid7 : (List.range' 364 52).all (rowFine Tryz.prog) = true := by kernel_rfl
theorem laid8 : (List.range' 416 52).all (rowFine Tryz.prog) = true := by kernel_rfl
theorem laid9 : (List.range' 468 52).all (rowFine Tryz.prog) = true := by kernel_rfl
theorem laid10 : (List.range' 520 52).all (rowFine Tryz.prog) = true := by kernel_rfl
theorem laid11 : (List.range' 572 52).all (rowFine Tryz.prog) = true := by kernel_rfl
theorem laid12 : (List.range' 624 52).all (rowFine Tryz.prog) = true := by kernel_rfl
theorem laid13 : (List.range' 676 52).all (rowFine Tryz.prog) = true := by kernel_rfl
theorem laidSize : Tryz.prog.types.size = 728 := by kernel_rfl
theorem laidRange : List.range 728 = List.range' 0 52 ++ List.range' 52 52 ++ List.range' 104 52 ++ List.range' 156 52 ++ List.range' 208 52 ++ List.range' 260 52 ++ List.range' 312 52 ++ List.range' 364 52 ++ List.range' 416 52 ++ List.range' 468 52 ++ List.range' 520 52 ++ List.range' 572 52 ++ List.range' 624 52 ++ List.range' 676 52 := by kernel_rfl
theorem laidTypes : (List.range Tryz.prog.types.size).all (rowFine Tryz.prog) = true := by
  rw [laidSize, laidRange]
  simp only [List.all_append, laid0, laid1, laid2, laid3, laid4, laid5, laid6, laid7, laid8, laid9, laid10, laid11, laid12, laid13, Bool.and_self]
theorem laidGlobals : Tryz.prog.globals.all (fun g => decide (g.type < Tryz.prog.types.size)) = true := by kernel_rfl
theorem laidFuncs : Tryz.prog.funcs.all (fun f => f.params.all fun t => decide (t < Tryz.prog.types.size)) = true := by kernel_rfl
theorem laidAll : laidOutB Tryz.prog = true := by
  unfold laidOutB
  rw [laidTypes, laidGlobals, laidFuncs]
  rfl
end Go.Proofs.YtbfepjofmkdafaaGreat
