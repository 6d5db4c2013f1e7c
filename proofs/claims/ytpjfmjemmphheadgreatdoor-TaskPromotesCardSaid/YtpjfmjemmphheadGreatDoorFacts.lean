/- The closed facts of the program that the law of TaskPromotes asks for. -/
import Derived.Test.YtpjfmjemmphheadGreatDoorRunB
namespace Go.Proofs.YtpjfmjemmphheadGreatDoor
open Go Go.Hx Go.RowKit
set_option maxRecDepth 100000
theorem noG_prog : NoG Tryz.prog := noG_ok (by kernel_rfl)
theorem facts : TpP Tryz.prog tableV where
  hg := noG_prog
  t27 := ⟨by kernel_rfl, by kernel_rfl, by kernel_rfl, by kernel_rfl⟩
  t28 := ⟨by kernel_rfl, by kernel_rfl, by kernel_rfl, by kernel_rfl⟩
  t69 := ⟨by kernel_rfl, by kernel_rfl, by kernel_rfl, by kernel_rfl⟩
  t29 := ⟨by kernel_rfl, by kernel_rfl, by kernel_rfl, by kernel_rfl⟩
  t30 := ⟨by kernel_rfl, by kernel_rfl, by kernel_rfl, by kernel_rfl⟩
  c12 := ⟨by kernel_rfl, by kernel_rfl⟩
  c14 := ⟨by kernel_rfl, by kernel_rfl⟩
  c30 := ⟨by kernel_rfl, by kernel_rfl⟩
  c32 := ⟨by kernel_rfl, by kernel_rfl⟩
  c33 := ⟨by kernel_rfl, by kernel_rfl⟩
  c48 := ⟨by kernel_rfl, by kernel_rfl⟩
  c49 := ⟨by kernel_rfl, by kernel_rfl⟩
  c29 := ⟨by kernel_rfl, by kernel_rfl⟩
  o31 := by kernel_rfl
  o13 := by kernel_rfl
  e16 := by kernel_rfl
  e18 := by kernel_rfl
  e19 := by kernel_rfl
  e36 := by kernel_rfl
  f34 := by kernel_rfl
  s17 := by kernel_rfl
  run1 := runA
  run0 := runB
theorem kd32 : kdOf Tryz.prog 8 32 = some tpKd := by kernel_rfl
theorem kd116 : kdOf Tryz.prog 8 116 = some (List.replicate 88 .i) := by kernel_rfl
theorem table_named : Tryz.prog.globalNamed "speculate/code.table" = some 0 := by kernel_rfl
theorem table_type : (Tryz.prog.globals[0]?).map (·.type) = some 116 := by kernel_rfl
end Go.Proofs.YtpjfmjemmphheadGreatDoor
