/- Part 8 of what this claim leans on: ET, EU, TR02, TB1, TB2. -/
import Derived.Test.YtdoooffmaokaeaaGreatDoorProg
import Derived.Test.YtdoooffmaokaeaaGreatDoorZ3
import Derived.Test.YtdoooffmaokaeaaGreatDoorZ6
import Derived.Test.YtdoooffmaokaeaaGreatDoorZ7
/- Facts about the types of the program. -/
section
set_option linter.unusedVariables false
set_option linter.unusedSimpArgs false
set_option linter.unusedSectionVars false
namespace Go.Proofs.E
open Go
set_option maxRecDepth 100000
theorem agg_1 : aggT Tryz.prog 1 = some false := by kernel_rfl
theorem sz_1 : szT Tryz.prog 1 = some 1 := by kernel_rfl
theorem agg_2 : aggT Tryz.prog 2 = some false := by kernel_rfl
theorem sz_2 : szT Tryz.prog 2 = some 1 := by kernel_rfl
theorem by_2 : byT Tryz.prog 2 = some 8 := by kernel_rfl
theorem ar_2 : arT Tryz.prog 2 = none := by kernel_rfl
theorem ik_2 : ikT Tryz.prog 2 = some .i64 := by kernel_rfl
theorem zr_2 : zrT Tryz.prog 2 = some [.i .i64 0] := by kernel_rfl
theorem agg_3 : aggT Tryz.prog 3 = some false := by kernel_rfl
theorem sz_3 : szT Tryz.prog 3 = some 1 := by kernel_rfl
theorem by_3 : byT Tryz.prog 3 = some 8 := by kernel_rfl
theorem ar_3 : arT Tryz.prog 3 = none := by kernel_rfl
theorem ik_3 : ikT Tryz.prog 3 = some .i64 := by kernel_rfl
theorem zr_3 : zrT Tryz.prog 3 = some [.i .i64 0] := by kernel_rfl
theorem agg_4 : aggT Tryz.prog 4 = some false := by kernel_rfl
theorem sz_4 : szT Tryz.prog 4 = some 1 := by kernel_rfl
theorem by_4 : byT Tryz.prog 4 = some 1 := by kernel_rfl
theorem ar_4 : arT Tryz.prog 4 = none := by kernel_rfl
theorem ik_4 : ikT Tryz.prog 4 = none := by kernel_rfl
theorem bol_4 : bolT Tryz.prog 4 = true := by kernel_rfl
theorem zr_4 : zrT Tryz.prog 4 = some [.b false] := by kernel_rfl
theorem agg_5 : aggT Tryz.prog 5 = some false := by kernel_rfl
theorem sz_5 : szT Tryz.prog 5 = some 1 := by kernel_rfl
theorem by_5 : byT Tryz.prog 5 = some 1 := by kernel_rfl
theorem ar_5 : arT Tryz.prog 5 = none := by kernel_rfl
theorem ik_5 : ikT Tryz.prog 5 = some .u8 := by kernel_rfl
theorem zr_5 : zrT Tryz.prog 5 = some [.i .u8 0] := by kernel_rfl
theorem agg_9 : aggT Tryz.prog 9 = some false := by kernel_rfl
theorem sz_9 : szT Tryz.prog 9 = some 1 := by kernel_rfl
theorem by_9 : byT Tryz.prog 9 = some 16 := by kernel_rfl
theorem ar_9 : arT Tryz.prog 9 = none := by kernel_rfl
theorem str_9 : strT Tryz.prog 9 = true := by kernel_rfl
theorem ik_9 : ikT Tryz.prog 9 = none := by kernel_rfl
theorem src_9 : srcT Tryz.prog 9 = true := by kernel_rfl
theorem zr_9 : zrT Tryz.prog 9 = some [.s ⟨#[]⟩] := by kernel_rfl
theorem agg_12 : aggT Tryz.prog 12 = some false := by kernel_rfl
theorem sz_12 : szT Tryz.prog 12 = some 1 := by kernel_rfl
theorem by_12 : byT Tryz.prog 12 = some 8 := by kernel_rfl
theorem ar_12 : arT Tryz.prog 12 = none := by kernel_rfl
theorem ik_12 : ikT Tryz.prog 12 = some .u64 := by kernel_rfl
theorem zr_12 : zrT Tryz.prog 12 = some [.i .u64 0] := by kernel_rfl
theorem agg_20 : aggT Tryz.prog 20 = some false := by kernel_rfl
theorem sz_20 : szT Tryz.prog 20 = some 1 := by kernel_rfl
theorem by_20 : byT Tryz.prog 20 = some 16 := by kernel_rfl
theorem ar_20 : arT Tryz.prog 20 = none := by kernel_rfl
theorem ik_20 : ikT Tryz.prog 20 = none := by kernel_rfl
theorem if_20 : ifT Tryz.prog 20 = true := by kernel_rfl
theorem zr_20 : zrT Tryz.prog 20 = some [.ni] := by kernel_rfl
theorem agg_21 : aggT Tryz.prog 21 = some false := by kernel_rfl
theorem sz_21 : szT Tryz.prog 21 = some 1 := by kernel_rfl
theorem by_21 : byT Tryz.prog 21 = some 4 := by kernel_rfl
theorem ar_21 : arT Tryz.prog 21 = none := by kernel_rfl
theorem ik_21 : ikT Tryz.prog 21 = some .i32 := by kernel_rfl
theorem zr_21 : zrT Tryz.prog 21 = some [.i .i32 0] := by kernel_rfl
theorem agg_22 : aggT Tryz.prog 22 = some false := by kernel_rfl
theorem sz_22 : szT Tryz.prog 22 = some 1 := by kernel_rfl
theorem by_22 : byT Tryz.prog 22 = some 24 := by kernel_rfl
theorem el_22 : elT Tryz.prog 22 = some 5 := by kernel_rfl
theorem ar_22 : arT Tryz.prog 22 = none := by kernel_rfl
theorem ik_22 : ikT Tryz.prog 22 = none := by kernel_rfl
theorem str_22 : strT Tryz.prog 22 = false := by kernel_rfl
theorem src_22 : srcT Tryz.prog 22 = true := by kernel_rfl
theorem zr_22 : zrT Tryz.prog 22 = some [.ns] := by kernel_rfl
theorem agg_23 : aggT Tryz.prog 23 = some false := by kernel_rfl
theorem sz_23 : szT Tryz.prog 23 = some 1 := by kernel_rfl
theorem agg_24 : aggT Tryz.prog 24 = some false := by kernel_rfl
theorem sz_24 : szT Tryz.prog 24 = some 1 := by kernel_rfl
theorem by_24 : byT Tryz.prog 24 = some 24 := by kernel_rfl
theorem el_24 : elT Tryz.prog 24 = some 45 := by kernel_rfl
theorem ar_24 : arT Tryz.prog 24 = none := by kernel_rfl
theorem ik_24 : ikT Tryz.prog 24 = none := by kernel_rfl
theorem str_24 : strT Tryz.prog 24 = false := by kernel_rfl
theorem src_24 : srcT Tryz.prog 24 = true := by kernel_rfl
theorem zr_24 : zrT Tryz.prog 24 = some [.ns] := by kernel_rfl
theorem agg_25 : aggT Tryz.prog 25 = some true := by kernel_rfl
theorem sz_25 : szT Tryz.prog 25 = some 3 := by kernel_rfl
theorem by_25 : byT Tryz.prog 25 = some 40 := by kernel_rfl
theorem ar_25 : arT Tryz.prog 25 = none := by kernel_rfl
theorem ik_25 : ikT Tryz.prog 25 = none := by kernel_rfl
theorem zr_25 : zrT Tryz.prog 25 = some [.i .i64 0, .i .i64 0, .ns] := by kernel_rfl
theorem plc_25 : plcT Tryz.prog 25 = some [(0, 1), (1, 1), (2, 1)] := by kernel_rfl
theorem fd0_25 : fdT Tryz.prog 25 0 = some (0, 3) := by kernel_rfl
theorem fd1_25 : fdT Tryz.prog 25 1 = some (1, 3) := by kernel_rfl
theorem fd2_25 : fdT Tryz.prog 25 2 = some (2, 24) := by kernel_rfl
theorem agg_26 : aggT Tryz.prog 26 = some true := by kernel_rfl
theorem sz_26 : szT Tryz.prog 26 = some 3 := by kernel_rfl
theorem by_26 : byT Tryz.prog 26 = some 40 := by kernel_rfl
theorem ar_26 : arT Tryz.prog 26 = none := by kernel_rfl
theorem ik_26 : ikT Tryz.prog 26 = none := by kernel_rfl
theorem zr_26 : zrT Tryz.prog 26 = some [.i .i64 0, .i .i64 0, .ns] := by kernel_rfl
theorem plc_26 : plcT Tryz.prog 26 = some [(0, 1), (1, 1), (2, 1)] := by kernel_rfl
theorem fd0_26 : fdT Tryz.prog 26 0 = some (0, 3) := by kernel_rfl
theorem fd1_26 : fdT Tryz.prog 26 1 = some (1, 3) := by kernel_rfl
theorem fd2_26 : fdT Tryz.prog 26 2 = some (2, 24) := by kernel_rfl
theorem agg_27 : aggT Tryz.prog 27 = some false := by kernel_rfl
theorem sz_27 : szT Tryz.prog 27 = some 1 := by kernel_rfl
theorem by_27 : byT Tryz.prog 27 = some 8 := by kernel_rfl
theorem ar_27 : arT Tryz.prog 27 = none := by kernel_rfl
theorem ik_27 : ikT Tryz.prog 27 = some .i64 := by kernel_rfl
theorem zr_27 : zrT Tryz.prog 27 = some [.i .i64 0] := by kernel_rfl
theorem agg_30 : aggT Tryz.prog 30 = some false := by kernel_rfl
theorem sz_30 : szT Tryz.prog 30 = some 1 := by kernel_rfl
theorem by_30 : byT Tryz.prog 30 = some 8 := by kernel_rfl
theorem ar_30 : arT Tryz.prog 30 = none := by kernel_rfl
theorem ik_30 : ikT Tryz.prog 30 = some .u64 := by kernel_rfl
theorem zr_30 : zrT Tryz.prog 30 = some [.i .u64 0] := by kernel_rfl
theorem agg_31 : aggT Tryz.prog 31 = some false := by kernel_rfl
theorem sz_31 : szT Tryz.prog 31 = some 1 := by kernel_rfl
theorem by_31 : byT Tryz.prog 31 = some 24 := by kernel_rfl
theorem el_31 : elT Tryz.prog 31 = some 95 := by kernel_rfl
theorem ar_31 : arT Tryz.prog 31 = none := by kernel_rfl
theorem ik_31 : ikT Tryz.prog 31 = none := by kernel_rfl
theorem str_31 : strT Tryz.prog 31 = false := by kernel_rfl
theorem src_31 : srcT Tryz.prog 31 = true := by kernel_rfl
theorem zr_31 : zrT Tryz.prog 31 = some [.ns] := by kernel_rfl
theorem agg_32 : aggT Tryz.prog 32 = some true := by kernel_rfl
theorem sz_32 : szT Tryz.prog 32 = some 2 := by kernel_rfl
theorem by_32 : byT Tryz.prog 32 = some 32 := by kernel_rfl
theorem ar_32 : arT Tryz.prog 32 = none := by kernel_rfl
theorem ik_32 : ikT Tryz.prog 32 = none := by kernel_rfl
theorem zr_32 : zrT Tryz.prog 32 = some [.i .i64 0, .ns] := by kernel_rfl
theorem plc_32 : plcT Tryz.prog 32 = some [(0, 1), (1, 1)] := by kernel_rfl
theorem fd0_32 : fdT Tryz.prog 32 0 = some (0, 3) := by kernel_rfl
theorem fd1_32 : fdT Tryz.prog 32 1 = some (1, 31) := by kernel_rfl
theorem agg_33 : aggT Tryz.prog 33 = some true := by kernel_rfl
theorem sz_33 : szT Tryz.prog 33 = some 2 := by kernel_rfl
theorem by_33 : byT Tryz.prog 33 = some 32 := by kernel_rfl
theorem ar_33 : arT Tryz.prog 33 = none := by kernel_rfl
theorem ik_33 : ikT Tryz.prog 33 = none := by kernel_rfl
theorem zr_33 : zrT Tryz.prog 33 = some [.i .i64 0, .ns] := by kernel_rfl
theorem plc_33 : plcT Tryz.prog 33 = some [(0, 1), (1, 1)] := by kernel_rfl
theorem fd0_33 : fdT Tryz.prog 33 0 = some (0, 3) := by kernel_rfl
theorem fd1_33 : fdT Tryz.prog 33 1 = some (1, 31) := by kernel_rfl
theorem agg_35 : aggT Tryz.prog 35 = some false := by kernel_rfl
theorem sz_35 : szT Tryz.prog 35 = some 1 := by kernel_rfl
theorem by_35 : byT Tryz.prog 35 = some 24 := by kernel_rfl
theorem el_35 : elT Tryz.prog 35 = some 3 := by kernel_rfl
theorem ar_35 : arT Tryz.prog 35 = none := by kernel_rfl
theorem ik_35 : ikT Tryz.prog 35 = none := by kernel_rfl
theorem str_35 : strT Tryz.prog 35 = false := by kernel_rfl
theorem src_35 : srcT Tryz.prog 35 = true := by kernel_rfl
theorem zr_35 : zrT Tryz.prog 35 = some [.ns] := by kernel_rfl
theorem agg_36 : aggT Tryz.prog 36 = some true := by kernel_rfl
theorem sz_36 : szT Tryz.prog 36 = some 4 := by kernel_rfl
theorem by_36 : byT Tryz.prog 36 = some 80 := by kernel_rfl
theorem ar_36 : arT Tryz.prog 36 = none := by kernel_rfl
theorem ik_36 : ikT Tryz.prog 36 = none := by kernel_rfl
theorem zr_36 : zrT Tryz.prog 36 = some [.i .i64 0, .ns, .ns, .ns] := by kernel_rfl
theorem plc_36 : plcT Tryz.prog 36 = some [(0, 2), (2, 1), (3, 1)] := by kernel_rfl
theorem fd0_36 : fdT Tryz.prog 36 0 = some (0, 33) := by kernel_rfl
theorem fd1_36 : fdT Tryz.prog 36 1 = some (2, 35) := by kernel_rfl
theorem fd2_36 : fdT Tryz.prog 36 2 = some (3, 35) := by kernel_rfl
theorem agg_37 : aggT Tryz.prog 37 = some true := by kernel_rfl
theorem sz_37 : szT Tryz.prog 37 = some 4 := by kernel_rfl
theorem by_37 : byT Tryz.prog 37 = some 80 := by kernel_rfl
theorem ar_37 : arT Tryz.prog 37 = none := by kernel_rfl
theorem ik_37 : ikT Tryz.prog 37 = none := by kernel_rfl
theorem zr_37 : zrT Tryz.prog 37 = some [.i .i64 0, .ns, .ns, .ns] := by kernel_rfl
theorem plc_37 : plcT Tryz.prog 37 = some [(0, 2), (2, 1), (3, 1)] := by kernel_rfl
theorem fd0_37 : fdT Tryz.prog 37 0 = some (0, 33) := by kernel_rfl
theorem fd1_37 : fdT Tryz.prog 37 1 = some (2, 35) := by kernel_rfl
theorem fd2_37 : fdT Tryz.prog 37 2 = some (3, 35) := by kernel_rfl
theorem agg_38 : aggT Tryz.prog 38 = some true := by kernel_rfl
theorem sz_38 : szT Tryz.prog 38 = some 4 := by kernel_rfl
theorem by_38 : byT Tryz.prog 38 = some 48 := by kernel_rfl
theorem ar_38 : arT Tryz.prog 38 = none := by kernel_rfl
theorem ik_38 : ikT Tryz.prog 38 = none := by kernel_rfl
theorem zr_38 : zrT Tryz.prog 38 = some [.i .i64 0, .i .i64 0, .i .i64 0, .ns] := by kernel_rfl
theorem plc_38 : plcT Tryz.prog 38 = some [(0, 1), (1, 1), (2, 2)] := by kernel_rfl
theorem fd0_38 : fdT Tryz.prog 38 0 = some (0, 3) := by kernel_rfl
theorem fd1_38 : fdT Tryz.prog 38 1 = some (1, 3) := by kernel_rfl
theorem fd2_38 : fdT Tryz.prog 38 2 = some (2, 33) := by kernel_rfl
theorem agg_39 : aggT Tryz.prog 39 = some true := by kernel_rfl
theorem sz_39 : szT Tryz.prog 39 = some 4 := by kernel_rfl
theorem by_39 : byT Tryz.prog 39 = some 48 := by kernel_rfl
theorem ar_39 : arT Tryz.prog 39 = none := by kernel_rfl
theorem ik_39 : ikT Tryz.prog 39 = none := by kernel_rfl
theorem zr_39 : zrT Tryz.prog 39 = some [.i .i64 0, .i .i64 0, .i .i64 0, .ns] := by kernel_rfl
theorem plc_39 : plcT Tryz.prog 39 = some [(0, 1), (1, 1), (2, 2)] := by kernel_rfl
theorem fd0_39 : fdT Tryz.prog 39 0 = some (0, 3) := by kernel_rfl
theorem fd1_39 : fdT Tryz.prog 39 1 = some (1, 3) := by kernel_rfl
theorem fd2_39 : fdT Tryz.prog 39 2 = some (2, 33) := by kernel_rfl
theorem agg_40 : aggT Tryz.prog 40 = some true := by kernel_rfl
theorem sz_40 : szT Tryz.prog 40 = some 9 := by kernel_rfl
theorem by_40 : byT Tryz.prog 40 = some 136 := by kernel_rfl
theorem ar_40 : arT Tryz.prog 40 = none := by kernel_rfl
theorem ik_40 : ikT Tryz.prog 40 = none := by kernel_rfl
theorem zr_40 : zrT Tryz.prog 40 = some [.i .i64 0, .i .i64 0, .i .i64 0, .i .i64 0, .ns, .i .i64 0, .ns, .ns, .ns] := by kernel_rfl
theorem plc_40 : plcT Tryz.prog 40 = some [(0, 1), (1, 4), (5, 2), (7, 1), (8, 1)] := by kernel_rfl
theorem fd0_40 : fdT Tryz.prog 40 0 = some (0, 3) := by kernel_rfl
theorem fd1_40 : fdT Tryz.prog 40 1 = some (1, 39) := by kernel_rfl
theorem fd2_40 : fdT Tryz.prog 40 2 = some (5, 33) := by kernel_rfl
theorem fd3_40 : fdT Tryz.prog 40 3 = some (7, 35) := by kernel_rfl
theorem fd4_40 : fdT Tryz.prog 40 4 = some (8, 35) := by kernel_rfl
theorem agg_41 : aggT Tryz.prog 41 = some true := by kernel_rfl
theorem sz_41 : szT Tryz.prog 41 = some 9 := by kernel_rfl
theorem by_41 : byT Tryz.prog 41 = some 136 := by kernel_rfl
theorem ar_41 : arT Tryz.prog 41 = none := by kernel_rfl
theorem ik_41 : ikT Tryz.prog 41 = none := by kernel_rfl
theorem zr_41 : zrT Tryz.prog 41 = some [.i .i64 0, .i .i64 0, .i .i64 0, .i .i64 0, .ns, .i .i64 0, .ns, .ns, .ns] := by kernel_rfl
theorem plc_41 : plcT Tryz.prog 41 = some [(0, 1), (1, 4), (5, 2), (7, 1), (8, 1)] := by kernel_rfl
theorem fd0_41 : fdT Tryz.prog 41 0 = some (0, 3) := by kernel_rfl
theorem fd1_41 : fdT Tryz.prog 41 1 = some (1, 39) := by kernel_rfl
theorem fd2_41 : fdT Tryz.prog 41 2 = some (5, 33) := by kernel_rfl
theorem fd3_41 : fdT Tryz.prog 41 3 = some (7, 35) := by kernel_rfl
theorem fd4_41 : fdT Tryz.prog 41 4 = some (8, 35) := by kernel_rfl
theorem agg_42 : aggT Tryz.prog 42 = some true := by kernel_rfl
theorem sz_42 : szT Tryz.prog 42 = some 8 := by kernel_rfl
theorem by_42 : byT Tryz.prog 42 = some 96 := by kernel_rfl
theorem ar_42 : arT Tryz.prog 42 = none := by kernel_rfl
theorem ik_42 : ikT Tryz.prog 42 = none := by kernel_rfl
theorem zr_42 : zrT Tryz.prog 42 = some [.i .i64 0, .i .i64 0, .i .i64 0, .i .i64 0, .i .i64 0, .ns, .i .i64 0, .ns] := by kernel_rfl
theorem plc_42 : plcT Tryz.prog 42 = some [(0, 1), (1, 1), (2, 4), (6, 2)] := by kernel_rfl
theorem fd0_42 : fdT Tryz.prog 42 0 = some (0, 3) := by kernel_rfl
theorem fd1_42 : fdT Tryz.prog 42 1 = some (1, 3) := by kernel_rfl
theorem fd2_42 : fdT Tryz.prog 42 2 = some (2, 39) := by kernel_rfl
theorem fd3_42 : fdT Tryz.prog 42 3 = some (6, 33) := by kernel_rfl
theorem agg_43 : aggT Tryz.prog 43 = some true := by kernel_rfl
theorem sz_43 : szT Tryz.prog 43 = some 8 := by kernel_rfl
theorem by_43 : byT Tryz.prog 43 = some 96 := by kernel_rfl
theorem ar_43 : arT Tryz.prog 43 = none := by kernel_rfl
theorem ik_43 : ikT Tryz.prog 43 = none := by kernel_rfl
theorem zr_43 : zrT Tryz.prog 43 = some [.i .i64 0, .i .i64 0, .i .i64 0, .i .i64 0, .i .i64 0, .ns, .i .i64 0, .ns] := by kernel_rfl
theorem plc_43 : plcT Tryz.prog 43 = some [(0, 1), (1, 1), (2, 4), (6, 2)] := by kernel_rfl
theorem fd0_43 : fdT Tryz.prog 43 0 = some (0, 3) := by kernel_rfl
theorem fd1_43 : fdT Tryz.prog 43 1 = some (1, 3) := by kernel_rfl
theorem fd2_43 : fdT Tryz.prog 43 2 = some (2, 39) := by kernel_rfl
theorem fd3_43 : fdT Tryz.prog 43 3 = some (6, 33) := by kernel_rfl
theorem agg_44 : aggT Tryz.prog 44 = some true := by kernel_rfl
theorem sz_44 : szT Tryz.prog 44 = some 22 := by kernel_rfl
theorem by_44 : byT Tryz.prog 44 = some 320 := by kernel_rfl
theorem ar_44 : arT Tryz.prog 44 = none := by kernel_rfl
theorem ik_44 : ikT Tryz.prog 44 = none := by kernel_rfl
theorem zr_44 : zrT Tryz.prog 44 = some [.i .i64 0, .i .i64 0, .ns, .ns, .ns, .i .i64 0, .i .i64 0, .i .i64 0, .i .i64 0, .ns, .i .i64 0, .ns, .ns, .ns, .i .i64 0, .i .i64 0, .i .i64 0, .i .i64 0, .i .i64 0, .ns, .i .i64 0, .ns] := by kernel_rfl
theorem plc_44 : plcT Tryz.prog 44 = some [(0, 1), (1, 4), (5, 9), (14, 8)] := by kernel_rfl
theorem fd0_44 : fdT Tryz.prog 44 0 = some (0, 3) := by kernel_rfl
theorem fd1_44 : fdT Tryz.prog 44 1 = some (1, 37) := by kernel_rfl
theorem fd2_44 : fdT Tryz.prog 44 2 = some (5, 41) := by kernel_rfl
theorem fd3_44 : fdT Tryz.prog 44 3 = some (14, 43) := by kernel_rfl
theorem agg_45 : aggT Tryz.prog 45 = some true := by kernel_rfl
theorem sz_45 : szT Tryz.prog 45 = some 22 := by kernel_rfl
theorem by_45 : byT Tryz.prog 45 = some 320 := by kernel_rfl
theorem ar_45 : arT Tryz.prog 45 = none := by kernel_rfl
theorem ik_45 : ikT Tryz.prog 45 = none := by kernel_rfl
theorem zr_45 : zrT Tryz.prog 45 = some [.i .i64 0, .i .i64 0, .ns, .ns, .ns, .i .i64 0, .i .i64 0, .i .i64 0, .i .i64 0, .ns, .i .i64 0, .ns, .ns, .ns, .i .i64 0, .i .i64 0, .i .i64 0, .i .i64 0, .i .i64 0, .ns, .i .i64 0, .ns] := by kernel_rfl
theorem plc_45 : plcT Tryz.prog 45 = some [(0, 1), (1, 4), (5, 9), (14, 8)] := by kernel_rfl
theorem fd0_45 : fdT Tryz.prog 45 0 = some (0, 3) := by kernel_rfl
theorem fd1_45 : fdT Tryz.prog 45 1 = some (1, 37) := by kernel_rfl
theorem fd2_45 : fdT Tryz.prog 45 2 = some (5, 41) := by kernel_rfl
theorem fd3_45 : fdT Tryz.prog 45 3 = some (14, 43) := by kernel_rfl
theorem agg_47 : aggT Tryz.prog 47 = some false := by kernel_rfl
theorem sz_47 : szT Tryz.prog 47 = some 1 := by kernel_rfl
theorem agg_52 : aggT Tryz.prog 52 = some false := by kernel_rfl
theorem sz_52 : szT Tryz.prog 52 = some 1 := by kernel_rfl
theorem agg_64 : aggT Tryz.prog 64 = some false := by kernel_rfl
theorem sz_64 : szT Tryz.prog 64 = some 1 := by kernel_rfl
theorem agg_65 : aggT Tryz.prog 65 = some false := by kernel_rfl
theorem sz_65 : szT Tryz.prog 65 = some 1 := by kernel_rfl
theorem agg_66 : aggT Tryz.prog 66 = some false := by kernel_rfl
theorem sz_66 : szT Tryz.prog 66 = some 1 := by kernel_rfl
theorem by_66 : byT Tryz.prog 66 = some 24 := by kernel_rfl
theorem el_66 : elT Tryz.prog 66 = some 4 := by kernel_rfl
theorem ar_66 : arT Tryz.prog 66 = none := by kernel_rfl
theorem ik_66 : ikT Tryz.prog 66 = none := by kernel_rfl
theorem str_66 : strT Tryz.prog 66 = false := by kernel_rfl
theorem src_66 : srcT Tryz.prog 66 = true := by kernel_rfl
theorem zr_66 : zrT Tryz.prog 66 = some [.ns] := by kernel_rfl
theorem agg_71 : aggT Tryz.prog 71 = some false := by kernel_rfl
theorem sz_71 : szT Tryz.prog 71 = some 1 := by kernel_rfl
theorem agg_72 : aggT Tryz.prog 72 = some false := by kernel_rfl
theorem sz_72 : szT Tryz.prog 72 = some 1 := by kernel_rfl
theorem agg_78 : aggT Tryz.prog 78 = some true := by kernel_rfl
theorem sz_78 : szT Tryz.prog 78 = some 2 := by kernel_rfl
theorem by_78 : byT Tryz.prog 78 = some 16 := by kernel_rfl
theorem ar_78 : arT Tryz.prog 78 = none := by kernel_rfl
theorem ik_78 : ikT Tryz.prog 78 = none := by kernel_rfl
theorem zr_78 : zrT Tryz.prog 78 = some [.i .i64 0, .i .i64 0] := by kernel_rfl
theorem eq_78 : eqT Tryz.prog 78 = some [(0, 3), (1, 3)] := by kernel_rfl
theorem plc_78 : plcT Tryz.prog 78 = some [(0, 1), (1, 1)] := by kernel_rfl
theorem fd0_78 : fdT Tryz.prog 78 0 = some (0, 3) := by kernel_rfl
theorem fd1_78 : fdT Tryz.prog 78 1 = some (1, 3) := by kernel_rfl
theorem agg_79 : aggT Tryz.prog 79 = some true := by kernel_rfl
theorem sz_79 : szT Tryz.prog 79 = some 2 := by kernel_rfl
theorem by_79 : byT Tryz.prog 79 = some 16 := by kernel_rfl
theorem ar_79 : arT Tryz.prog 79 = none := by kernel_rfl
theorem ik_79 : ikT Tryz.prog 79 = none := by kernel_rfl
theorem zr_79 : zrT Tryz.prog 79 = some [.i .i64 0, .i .i64 0] := by kernel_rfl
theorem eq_79 : eqT Tryz.prog 79 = some [(0, 3), (1, 3)] := by kernel_rfl
theorem plc_79 : plcT Tryz.prog 79 = some [(0, 1), (1, 1)] := by kernel_rfl
theorem fd0_79 : fdT Tryz.prog 79 0 = some (0, 3) := by kernel_rfl
theorem fd1_79 : fdT Tryz.prog 79 1 = some (1, 3) := by kernel_rfl
theorem agg_80 : aggT Tryz.prog 80 = some true := by kernel_rfl
theorem sz_80 : szT Tryz.prog 80 = some 18 := by kernel_rfl
theorem by_80 : byT Tryz.prog 80 = some 144 := by kernel_rfl
theorem el_80 : elT Tryz.prog 80 = none := by kernel_rfl
theorem ar_80 : arT Tryz.prog 80 = some (9, 79) := by kernel_rfl
theorem ik_80 : ikT Tryz.prog 80 = none := by kernel_rfl
theorem zr_80 : zrT Tryz.prog 80 = some [.i .i64 0, .i .i64 0, .i .i64 0, .i .i64 0, .i .i64 0, .i .i64 0, .i .i64 0, .i .i64 0, .i .i64 0, .i .i64 0, .i .i64 0, .i .i64 0, .i .i64 0, .i .i64 0, .i .i64 0, .i .i64 0, .i .i64 0, .i .i64 0] := by kernel_rfl
theorem agg_83 : aggT Tryz.prog 83 = some false := by kernel_rfl
theorem sz_83 : szT Tryz.prog 83 = some 1 := by kernel_rfl
theorem agg_95 : aggT Tryz.prog 95 = some false := by kernel_rfl
theorem sz_95 : szT Tryz.prog 95 = some 1 := by kernel_rfl
theorem by_95 : byT Tryz.prog 95 = some 8 := by kernel_rfl
theorem ar_95 : arT Tryz.prog 95 = none := by kernel_rfl
theorem ik_95 : ikT Tryz.prog 95 = some .u64 := by kernel_rfl
theorem zr_95 : zrT Tryz.prog 95 = some [.i .u64 0] := by kernel_rfl
theorem agg_102 : aggT Tryz.prog 102 = some false := by kernel_rfl
theorem sz_102 : szT Tryz.prog 102 = some 1 := by kernel_rfl
theorem agg_106 : aggT Tryz.prog 106 = some false := by kernel_rfl
theorem sz_106 : szT Tryz.prog 106 = some 1 := by kernel_rfl
theorem agg_107 : aggT Tryz.prog 107 = some false := by kernel_rfl
theorem sz_107 : szT Tryz.prog 107 = some 1 := by kernel_rfl
theorem agg_113 : aggT Tryz.prog 113 = some false := by kernel_rfl
theorem sz_113 : szT Tryz.prog 113 = some 1 := by kernel_rfl
theorem agg_127 : aggT Tryz.prog 127 = some false := by kernel_rfl
theorem sz_127 : szT Tryz.prog 127 = some 1 := by kernel_rfl
theorem by_127 : byT Tryz.prog 127 = some 24 := by kernel_rfl
theorem el_127 : elT Tryz.prog 127 = some 33 := by kernel_rfl
theorem ar_127 : arT Tryz.prog 127 = none := by kernel_rfl
theorem ik_127 : ikT Tryz.prog 127 = none := by kernel_rfl
theorem str_127 : strT Tryz.prog 127 = false := by kernel_rfl
theorem src_127 : srcT Tryz.prog 127 = true := by kernel_rfl
theorem zr_127 : zrT Tryz.prog 127 = some [.ns] := by kernel_rfl
theorem agg_129 : aggT Tryz.prog 129 = some false := by kernel_rfl
theorem sz_129 : szT Tryz.prog 129 = some 1 := by kernel_rfl
theorem agg_130 : aggT Tryz.prog 130 = some false := by kernel_rfl
theorem sz_130 : szT Tryz.prog 130 = some 1 := by kernel_rfl
theorem agg_131 : aggT Tryz.prog 131 = some false := by kernel_rfl
theorem sz_131 : szT Tryz.prog 131 = some 1 := by kernel_rfl
theorem agg_134 : aggT Tryz.prog 134 = some true := by kernel_rfl
theorem sz_134 : szT Tryz.prog 134 = some 2 := by kernel_rfl
theorem by_134 : byT Tryz.prog 134 = some 16 := by kernel_rfl
theorem ar_134 : arT Tryz.prog 134 = none := by kernel_rfl
theorem ik_134 : ikT Tryz.prog 134 = none := by kernel_rfl
theorem zr_134 : zrT Tryz.prog 134 = some [.i .i64 0, .i .u64 0] := by kernel_rfl
theorem eq_134 : eqT Tryz.prog 134 = some [(0, 3), (1, 95)] := by kernel_rfl
theorem plc_134 : plcT Tryz.prog 134 = some [(0, 1), (1, 1)] := by kernel_rfl
theorem fd0_134 : fdT Tryz.prog 134 0 = some (0, 3) := by kernel_rfl
theorem fd1_134 : fdT Tryz.prog 134 1 = some (1, 95) := by kernel_rfl
theorem agg_135 : aggT Tryz.prog 135 = some true := by kernel_rfl
theorem sz_135 : szT Tryz.prog 135 = some 2 := by kernel_rfl
theorem by_135 : byT Tryz.prog 135 = some 16 := by kernel_rfl
theorem ar_135 : arT Tryz.prog 135 = none := by kernel_rfl
theorem ik_135 : ikT Tryz.prog 135 = none := by kernel_rfl
theorem zr_135 : zrT Tryz.prog 135 = some [.i .i64 0, .i .u64 0] := by kernel_rfl
theorem eq_135 : eqT Tryz.prog 135 = some [(0, 3), (1, 95)] := by kernel_rfl
theorem plc_135 : plcT Tryz.prog 135 = some [(0, 1), (1, 1)] := by kernel_rfl
theorem fd0_135 : fdT Tryz.prog 135 0 = some (0, 3) := by kernel_rfl
theorem fd1_135 : fdT Tryz.prog 135 1 = some (1, 95) := by kernel_rfl
theorem agg_136 : aggT Tryz.prog 136 = some false := by kernel_rfl
theorem sz_136 : szT Tryz.prog 136 = some 1 := by kernel_rfl
theorem agg_137 : aggT Tryz.prog 137 = some false := by kernel_rfl
theorem sz_137 : szT Tryz.prog 137 = some 1 := by kernel_rfl
theorem agg_141 : aggT Tryz.prog 141 = some false := by kernel_rfl
theorem sz_141 : szT Tryz.prog 141 = some 1 := by kernel_rfl
theorem agg_143 : aggT Tryz.prog 143 = some false := by kernel_rfl
theorem sz_143 : szT Tryz.prog 143 = some 1 := by kernel_rfl
theorem agg_144 : aggT Tryz.prog 144 = some false := by kernel_rfl
theorem sz_144 : szT Tryz.prog 144 = some 1 := by kernel_rfl
theorem agg_145 : aggT Tryz.prog 145 = some false := by kernel_rfl
theorem sz_145 : szT Tryz.prog 145 = some 1 := by kernel_rfl
theorem agg_159 : aggT Tryz.prog 159 = some false := by kernel_rfl
theorem sz_159 : szT Tryz.prog 159 = some 1 := by kernel_rfl
theorem agg_161 : aggT Tryz.prog 161 = some false := by kernel_rfl
theorem sz_161 : szT Tryz.prog 161 = some 1 := by kernel_rfl
theorem agg_168 : aggT Tryz.prog 168 = some false := by kernel_rfl
theorem sz_168 : szT Tryz.prog 168 = some 1 := by kernel_rfl
theorem agg_172 : aggT Tryz.prog 172 = some false := by kernel_rfl
theorem sz_172 : szT Tryz.prog 172 = some 1 := by kernel_rfl
theorem agg_174 : aggT Tryz.prog 174 = some false := by kernel_rfl
theorem sz_174 : szT Tryz.prog 174 = some 1 := by kernel_rfl
theorem agg_177 : aggT Tryz.prog 177 = some false := by kernel_rfl
theorem sz_177 : szT Tryz.prog 177 = some 1 := by kernel_rfl
theorem agg_178 : aggT Tryz.prog 178 = some false := by kernel_rfl
theorem sz_178 : szT Tryz.prog 178 = some 1 := by kernel_rfl
theorem agg_181 : aggT Tryz.prog 181 = some false := by kernel_rfl
theorem sz_181 : szT Tryz.prog 181 = some 1 := by kernel_rfl
theorem agg_182 : aggT Tryz.prog 182 = some false := by kernel_rfl
theorem sz_182 : szT Tryz.prog 182 = some 1 := by kernel_rfl
theorem agg_187 : aggT Tryz.prog 187 = some false := by kernel_rfl
theorem sz_187 : szT Tryz.prog 187 = some 1 := by kernel_rfl
theorem agg_190 : aggT Tryz.prog 190 = some false := by kernel_rfl
theorem sz_190 : szT Tryz.prog 190 = some 1 := by kernel_rfl
theorem agg_192 : aggT Tryz.prog 192 = some false := by kernel_rfl
theorem sz_192 : szT Tryz.prog 192 = some 1 := by kernel_rfl
theorem agg_197 : aggT Tryz.prog 197 = some false := by kernel_rfl
theorem sz_197 : szT Tryz.prog 197 = some 1 := by kernel_rfl
theorem agg_198 : aggT Tryz.prog 198 = some false := by kernel_rfl
theorem sz_198 : szT Tryz.prog 198 = some 1 := by kernel_rfl
theorem by_198 : byT Tryz.prog 198 = some 8 := by kernel_rfl
theorem ar_198 : arT Tryz.prog 198 = none := by kernel_rfl
theorem ik_198 : ikT Tryz.prog 198 = some .i64 := by kernel_rfl
theorem zr_198 : zrT Tryz.prog 198 = some [.i .i64 0] := by kernel_rfl
theorem agg_201 : aggT Tryz.prog 201 = some false := by kernel_rfl
theorem sz_201 : szT Tryz.prog 201 = some 1 := by kernel_rfl
theorem agg_202 : aggT Tryz.prog 202 = some false := by kernel_rfl
theorem sz_202 : szT Tryz.prog 202 = some 1 := by kernel_rfl
theorem agg_204 : aggT Tryz.prog 204 = some false := by kernel_rfl
theorem sz_204 : szT Tryz.prog 204 = some 1 := by kernel_rfl
theorem agg_205 : aggT Tryz.prog 205 = some false := by kernel_rfl
theorem sz_205 : szT Tryz.prog 205 = some 1 := by kernel_rfl
theorem agg_206 : aggT Tryz.prog 206 = some false := by kernel_rfl
theorem sz_206 : szT Tryz.prog 206 = some 1 := by kernel_rfl
theorem by_206 : byT Tryz.prog 206 = some 4 := by kernel_rfl
theorem ar_206 : arT Tryz.prog 206 = none := by kernel_rfl
theorem ik_206 : ikT Tryz.prog 206 = some .u32 := by kernel_rfl
theorem zr_206 : zrT Tryz.prog 206 = some [.i .u32 0] := by kernel_rfl
theorem agg_207 : aggT Tryz.prog 207 = some false := by kernel_rfl
theorem sz_207 : szT Tryz.prog 207 = some 1 := by kernel_rfl
theorem by_207 : byT Tryz.prog 207 = some 24 := by kernel_rfl
theorem el_207 : elT Tryz.prog 207 = some 31 := by kernel_rfl
theorem ar_207 : arT Tryz.prog 207 = none := by kernel_rfl
theorem ik_207 : ikT Tryz.prog 207 = none := by kernel_rfl
theorem str_207 : strT Tryz.prog 207 = false := by kernel_rfl
theorem src_207 : srcT Tryz.prog 207 = true := by kernel_rfl
theorem zr_207 : zrT Tryz.prog 207 = some [.ns] := by kernel_rfl
theorem agg_208 : aggT Tryz.prog 208 = some false := by kernel_rfl
theorem sz_208 : szT Tryz.prog 208 = some 1 := by kernel_rfl
theorem agg_209 : aggT Tryz.prog 209 = some true := by kernel_rfl
theorem sz_209 : szT Tryz.prog 209 = some 63 := by kernel_rfl
theorem by_209 : byT Tryz.prog 209 = some 504 := by kernel_rfl
theorem el_209 : elT Tryz.prog 209 = none := by kernel_rfl
theorem ar_209 : arT Tryz.prog 209 = some (63, 95) := by kernel_rfl
theorem ik_209 : ikT Tryz.prog 209 = none := by kernel_rfl
theorem zr_209 : zrT Tryz.prog 209 = some (List.replicate 63 (.i .u64 0)) := by kernel_rfl
theorem agg_210 : aggT Tryz.prog 210 = some true := by kernel_rfl
theorem sz_210 : szT Tryz.prog 210 = some 63 := by kernel_rfl
theorem by_210 : byT Tryz.prog 210 = some 504 := by kernel_rfl
theorem el_210 : elT Tryz.prog 210 = none := by kernel_rfl
theorem ar_210 : arT Tryz.prog 210 = some (63, 95) := by kernel_rfl
theorem ik_210 : ikT Tryz.prog 210 = none := by kernel_rfl
theorem zr_210 : zrT Tryz.prog 210 = some (List.replicate 63 (.i .u64 0)) := by kernel_rfl
theorem agg_211 : aggT Tryz.prog 211 = some false := by kernel_rfl
theorem sz_211 : szT Tryz.prog 211 = some 1 := by kernel_rfl
theorem agg_213 : aggT Tryz.prog 213 = some false := by kernel_rfl
theorem sz_213 : szT Tryz.prog 213 = some 1 := by kernel_rfl
theorem agg_214 : aggT Tryz.prog 214 = some true := by kernel_rfl
theorem sz_214 : szT Tryz.prog 214 = some 64 := by kernel_rfl
theorem by_214 : byT Tryz.prog 214 = some 64 := by kernel_rfl
theorem el_214 : elT Tryz.prog 214 = none := by kernel_rfl
theorem ar_214 : arT Tryz.prog 214 = some (64, 5) := by kernel_rfl
theorem ik_214 : ikT Tryz.prog 214 = none := by kernel_rfl
theorem zr_214 : zrT Tryz.prog 214 = some (List.replicate 64 (.i .u8 0)) := by kernel_rfl
theorem agg_215 : aggT Tryz.prog 215 = some false := by kernel_rfl
theorem sz_215 : szT Tryz.prog 215 = some 1 := by kernel_rfl
theorem by_215 : byT Tryz.prog 215 = some 16 := by kernel_rfl
theorem ar_215 : arT Tryz.prog 215 = none := by kernel_rfl
theorem ik_215 : ikT Tryz.prog 215 = none := by kernel_rfl
theorem if_215 : ifT Tryz.prog 215 = true := by kernel_rfl
theorem zr_215 : zrT Tryz.prog 215 = some [.ni] := by kernel_rfl
theorem agg_216 : aggT Tryz.prog 216 = some false := by kernel_rfl
theorem sz_216 : szT Tryz.prog 216 = some 1 := by kernel_rfl
theorem by_216 : byT Tryz.prog 216 = some 16 := by kernel_rfl
theorem ar_216 : arT Tryz.prog 216 = none := by kernel_rfl
theorem ik_216 : ikT Tryz.prog 216 = none := by kernel_rfl
theorem if_216 : ifT Tryz.prog 216 = true := by kernel_rfl
theorem zr_216 : zrT Tryz.prog 216 = some [.ni] := by kernel_rfl
theorem agg_219 : aggT Tryz.prog 219 = some false := by kernel_rfl
theorem sz_219 : szT Tryz.prog 219 = some 1 := by kernel_rfl
theorem by_219 : byT Tryz.prog 219 = some 8 := by kernel_rfl
theorem ar_219 : arT Tryz.prog 219 = none := by kernel_rfl
theorem ik_219 : ikT Tryz.prog 219 = some .u64 := by kernel_rfl
theorem zr_219 : zrT Tryz.prog 219 = some [.i .u64 0] := by kernel_rfl
theorem agg_220 : aggT Tryz.prog 220 = some false := by kernel_rfl
theorem sz_220 : szT Tryz.prog 220 = some 1 := by kernel_rfl
theorem agg_221 : aggT Tryz.prog 221 = some false := by kernel_rfl
theorem sz_221 : szT Tryz.prog 221 = some 1 := by kernel_rfl
theorem agg_222 : aggT Tryz.prog 222 = some false := by kernel_rfl
theorem sz_222 : szT Tryz.prog 222 = some 1 := by kernel_rfl
theorem agg_223 : aggT Tryz.prog 223 = some false := by kernel_rfl
theorem sz_223 : szT Tryz.prog 223 = some 1 := by kernel_rfl
theorem by_223 : byT Tryz.prog 223 = some 8 := by kernel_rfl
theorem ar_223 : arT Tryz.prog 223 = none := by kernel_rfl
theorem ik_223 : ikT Tryz.prog 223 = none := by kernel_rfl
theorem zr_223 : zrT Tryz.prog 223 = some [.np] := by kernel_rfl
theorem agg_224 : aggT Tryz.prog 224 = some false := by kernel_rfl
theorem sz_224 : szT Tryz.prog 224 = some 1 := by kernel_rfl
theorem agg_225 : aggT Tryz.prog 225 = some false := by kernel_rfl
theorem sz_225 : szT Tryz.prog 225 = some 1 := by kernel_rfl
theorem by_225 : byT Tryz.prog 225 = some 8 := by kernel_rfl
theorem ar_225 : arT Tryz.prog 225 = none := by kernel_rfl
theorem ik_225 : ikT Tryz.prog 225 = none := by kernel_rfl
theorem zr_225 : zrT Tryz.prog 225 = some [.np] := by kernel_rfl
theorem agg_226 : aggT Tryz.prog 226 = some false := by kernel_rfl
theorem sz_226 : szT Tryz.prog 226 = some 1 := by kernel_rfl
theorem by_226 : byT Tryz.prog 226 = some 8 := by kernel_rfl
theorem ar_226 : arT Tryz.prog 226 = none := by kernel_rfl
theorem ik_226 : ikT Tryz.prog 226 = none := by kernel_rfl
theorem zr_226 : zrT Tryz.prog 226 = some [.np] := by kernel_rfl
theorem agg_227 : aggT Tryz.prog 227 = some true := by kernel_rfl
theorem sz_227 : szT Tryz.prog 227 = some 1 := by kernel_rfl
theorem by_227 : byT Tryz.prog 227 = some 8 := by kernel_rfl
theorem ar_227 : arT Tryz.prog 227 = none := by kernel_rfl
theorem ik_227 : ikT Tryz.prog 227 = none := by kernel_rfl
theorem zr_227 : zrT Tryz.prog 227 = some [.i .i64 0] := by kernel_rfl
theorem eq_227 : eqT Tryz.prog 227 = some [(0, 27)] := by kernel_rfl
theorem plc_227 : plcT Tryz.prog 227 = some [(0, 1)] := by kernel_rfl
theorem fd0_227 : fdT Tryz.prog 227 0 = some (0, 27) := by kernel_rfl
theorem agg_228 : aggT Tryz.prog 228 = some true := by kernel_rfl
theorem sz_228 : szT Tryz.prog 228 = some 1 := by kernel_rfl
theorem by_228 : byT Tryz.prog 228 = some 8 := by kernel_rfl
theorem ar_228 : arT Tryz.prog 228 = none := by kernel_rfl
theorem ik_228 : ikT Tryz.prog 228 = none := by kernel_rfl
theorem zr_228 : zrT Tryz.prog 228 = some [.i .i64 0] := by kernel_rfl
theorem eq_228 : eqT Tryz.prog 228 = some [(0, 27)] := by kernel_rfl
theorem plc_228 : plcT Tryz.prog 228 = some [(0, 1)] := by kernel_rfl
theorem fd0_228 : fdT Tryz.prog 228 0 = some (0, 27) := by kernel_rfl
theorem agg_229 : aggT Tryz.prog 229 = some false := by kernel_rfl
theorem sz_229 : szT Tryz.prog 229 = some 1 := by kernel_rfl
theorem agg_230 : aggT Tryz.prog 230 = some false := by kernel_rfl
theorem sz_230 : szT Tryz.prog 230 = some 1 := by kernel_rfl
theorem by_230 : byT Tryz.prog 230 = some 8 := by kernel_rfl
theorem ar_230 : arT Tryz.prog 230 = none := by kernel_rfl
theorem ik_230 : ikT Tryz.prog 230 = none := by kernel_rfl
theorem zr_230 : zrT Tryz.prog 230 = some [.np] := by kernel_rfl
theorem agg_231 : aggT Tryz.prog 231 = some false := by kernel_rfl
theorem sz_231 : szT Tryz.prog 231 = some 1 := by kernel_rfl
theorem by_231 : byT Tryz.prog 231 = some 8 := by kernel_rfl
theorem ar_231 : arT Tryz.prog 231 = none := by kernel_rfl
theorem ik_231 : ikT Tryz.prog 231 = none := by kernel_rfl
theorem zr_231 : zrT Tryz.prog 231 = some [.np] := by kernel_rfl
theorem agg_232 : aggT Tryz.prog 232 = some false := by kernel_rfl
theorem sz_232 : szT Tryz.prog 232 = some 1 := by kernel_rfl
theorem agg_251 : aggT Tryz.prog 251 = some false := by kernel_rfl
theorem sz_251 : szT Tryz.prog 251 = some 1 := by kernel_rfl
theorem by_251 : byT Tryz.prog 251 = some 16 := by kernel_rfl
theorem ar_251 : arT Tryz.prog 251 = none := by kernel_rfl
theorem ik_251 : ikT Tryz.prog 251 = none := by kernel_rfl
theorem if_251 : ifT Tryz.prog 251 = true := by kernel_rfl
theorem zr_251 : zrT Tryz.prog 251 = some [.ni] := by kernel_rfl
theorem agg_253 : aggT Tryz.prog 253 = some false := by kernel_rfl
theorem sz_253 : szT Tryz.prog 253 = some 1 := by kernel_rfl
theorem agg_254 : aggT Tryz.prog 254 = some false := by kernel_rfl
theorem sz_254 : szT Tryz.prog 254 = some 1 := by kernel_rfl
theorem by_254 : byT Tryz.prog 254 = some 16 := by kernel_rfl
theorem ar_254 : arT Tryz.prog 254 = none := by kernel_rfl
theorem ik_254 : ikT Tryz.prog 254 = none := by kernel_rfl
theorem if_254 : ifT Tryz.prog 254 = true := by kernel_rfl
theorem zr_254 : zrT Tryz.prog 254 = some [.ni] := by kernel_rfl
theorem agg_255 : aggT Tryz.prog 255 = some false := by kernel_rfl
theorem sz_255 : szT Tryz.prog 255 = some 1 := by kernel_rfl
theorem agg_256 : aggT Tryz.prog 256 = some false := by kernel_rfl
theorem sz_256 : szT Tryz.prog 256 = some 1 := by kernel_rfl
theorem by_256 : byT Tryz.prog 256 = some 16 := by kernel_rfl
theorem ar_256 : arT Tryz.prog 256 = none := by kernel_rfl
theorem ik_256 : ikT Tryz.prog 256 = none := by kernel_rfl
theorem if_256 : ifT Tryz.prog 256 = true := by kernel_rfl
theorem zr_256 : zrT Tryz.prog 256 = some [.ni] := by kernel_rfl
theorem agg_257 : aggT Tryz.prog 257 = some false := by kernel_rfl
theorem sz_257 : szT Tryz.prog 257 = some 1 := by kernel_rfl
theorem by_257 : byT Tryz.prog 257 = some 24 := by kernel_rfl
theorem el_257 : elT Tryz.prog 257 = some 216 := by kernel_rfl
theorem ar_257 : arT Tryz.prog 257 = none := by kernel_rfl
theorem ik_257 : ikT Tryz.prog 257 = none := by kernel_rfl
theorem str_257 : strT Tryz.prog 257 = false := by kernel_rfl
theorem src_257 : srcT Tryz.prog 257 = true := by kernel_rfl
theorem zr_257 : zrT Tryz.prog 257 = some [.ns] := by kernel_rfl
theorem agg_258 : aggT Tryz.prog 258 = some false := by kernel_rfl
theorem sz_258 : szT Tryz.prog 258 = some 1 := by kernel_rfl
theorem agg_259 : aggT Tryz.prog 259 = some false := by kernel_rfl
theorem sz_259 : szT Tryz.prog 259 = some 1 := by kernel_rfl
theorem agg_265 : aggT Tryz.prog 265 = some false := by kernel_rfl
theorem sz_265 : szT Tryz.prog 265 = some 1 := by kernel_rfl
theorem agg_269 : aggT Tryz.prog 269 = some false := by kernel_rfl
theorem sz_269 : szT Tryz.prog 269 = some 1 := by kernel_rfl
theorem by_269 : byT Tryz.prog 269 = some 8 := by kernel_rfl
theorem ar_269 : arT Tryz.prog 269 = none := by kernel_rfl
theorem ik_269 : ikT Tryz.prog 269 = none := by kernel_rfl
theorem zr_269 : zrT Tryz.prog 269 = some [.np] := by kernel_rfl
theorem agg_274 : aggT Tryz.prog 274 = some false := by kernel_rfl
theorem sz_274 : szT Tryz.prog 274 = some 1 := by kernel_rfl
theorem agg_280 : aggT Tryz.prog 280 = some false := by kernel_rfl
theorem sz_280 : szT Tryz.prog 280 = some 1 := by kernel_rfl
theorem by_280 : byT Tryz.prog 280 = some 2 := by kernel_rfl
theorem ar_280 : arT Tryz.prog 280 = none := by kernel_rfl
theorem ik_280 : ikT Tryz.prog 280 = some .u16 := by kernel_rfl
theorem zr_280 : zrT Tryz.prog 280 = some [.i .u16 0] := by kernel_rfl
theorem agg_287 : aggT Tryz.prog 287 = some false := by kernel_rfl
theorem sz_287 : szT Tryz.prog 287 = some 1 := by kernel_rfl
theorem by_287 : byT Tryz.prog 287 = some 8 := by kernel_rfl
theorem ar_287 : arT Tryz.prog 287 = none := by kernel_rfl
theorem ik_287 : ikT Tryz.prog 287 = none := by kernel_rfl
theorem zr_287 : zrT Tryz.prog 287 = some [.np] := by kernel_rfl
theorem T : (aggT Tryz.prog 1 = some false) ∧ (szT Tryz.prog 1 = some 1) ∧ (aggT Tryz.prog 2 = some false) ∧ (szT Tryz.prog 2 = some 1) ∧ (byT Tryz.prog 2 = some 8) ∧ (arT Tryz.prog 2 = none) ∧ (ikT Tryz.prog 2 = some .i64) ∧ (zrT Tryz.prog 2 = some [.i .i64 0]) ∧ (aggT Tryz.prog 3 = some false) ∧ (szT Tryz.prog 3 = some 1) ∧ (byT Tryz.prog 3 = some 8) ∧ (arT Tryz.prog 3 = none) ∧ (ikT Tryz.prog 3 = some .i64) ∧ (zrT Tryz.prog 3 = some [.i .i64 0]) ∧ (aggT Tryz.prog 4 = some false) ∧ (szT Tryz.prog 4 = some 1) ∧ (byT Tryz.prog 4 = some 1) ∧ (arT Tryz.prog 4 = none) ∧ (ikT Tryz.prog 4 = none) ∧ (bolT Tryz.prog 4 = true) ∧ (zrT Tryz.prog 4 = some [.b false]) ∧ (aggT Tryz.prog 5 = some false) ∧ (szT Tryz.prog 5 = some 1) ∧ (byT Tryz.prog 5 = some 1) ∧ (arT Tryz.prog 5 = none) ∧ (ikT Tryz.prog 5 = some .u8) ∧ (zrT Tryz.prog 5 = some [.i .u8 0]) ∧ (aggT Tryz.prog 9 = some false) ∧ (szT Tryz.prog 9 = some 1) ∧ (byT Tryz.prog 9 = some 16) ∧ (arT Tryz.prog 9 = none) ∧ (strT Tryz.prog 9 = true) ∧ (ikT Tryz.prog 9 = none) ∧ (srcT Tryz.prog 9 = true) ∧ (zrT Tryz.prog 9 = some [.s ⟨#[]⟩]) ∧ (aggT Tryz.prog 12 = some false) ∧ (szT Tryz.prog 12 = some 1) ∧ (byT Tryz.prog 12 = some 8) ∧ (arT Tryz.prog 12 = none) ∧ (ikT Tryz.prog 12 = some .u64) ∧ (zrT Tryz.prog 12 = some [.i .u64 0]) ∧ (aggT Tryz.prog 20 = some false) ∧ (szT Tryz.prog 20 = some 1) ∧ (byT Tryz.prog 20 = some 16) ∧ (arT Tryz.prog 20 = none) ∧ (ikT Tryz.prog 20 = none) ∧ (ifT Tryz.prog 20 = true) ∧ (zrT Tryz.prog 20 = some [.ni]) ∧ (aggT Tryz.prog 21 = some false) ∧ (szT Tryz.prog 21 = some 1) ∧ (byT Tryz.prog 21 = some 4) ∧ (arT Tryz.prog 21 = none) ∧ (ikT Tryz.prog 21 = some .i32) ∧ (zrT Tryz.prog 21 = some [.i .i32 0]) ∧ (aggT Tryz.prog 22 = some false) ∧ (szT Tryz.prog 22 = some 1) ∧ (byT Tryz.prog 22 = some 24) ∧ (elT Tryz.prog 22 = some 5) ∧ (arT Tryz.prog 22 = none) ∧ (ikT Tryz.prog 22 = none) ∧ (strT Tryz.prog 22 = false) ∧ (srcT Tryz.prog 22 = true) ∧ (zrT Tryz.prog 22 = some [.ns]) ∧ (aggT Tryz.prog 23 = some false) ∧ (szT Tryz.prog 23 = some 1) ∧ (aggT Tryz.prog 24 = some false) ∧ (szT Tryz.prog 24 = some 1) ∧ (byT Tryz.prog 24 = some 24) ∧ (elT Tryz.prog 24 = some 45) ∧ (arT Tryz.prog 24 = none) ∧ (ikT Tryz.prog 24 = none) ∧ (strT Tryz.prog 24 = false) ∧ (srcT Tryz.prog 24 = true) ∧ (zrT Tryz.prog 24 = some [.ns]) ∧ (aggT Tryz.prog 25 = some true) ∧ (szT Tryz.prog 25 = some 3) ∧ (byT Tryz.prog 25 = some 40) ∧ (arT Tryz.prog 25 = none) ∧ (ikT Tryz.prog 25 = none) ∧ (zrT Tryz.prog 25 = some [.i .i64 0, .i .i64 0, .ns]) ∧ (plcT Tryz.prog 25 = some [(0, 1), (1, 1), (2, 1)]) ∧ (fdT Tryz.prog 25 0 = some (0, 3)) ∧ (fdT Tryz.prog 25 1 = some (1, 3)) ∧ (fdT Tryz.prog 25 2 = some (2, 24)) ∧ (aggT Tryz.prog 26 = some true) ∧ (szT Tryz.prog 26 = some 3) ∧ (byT Tryz.prog 26 = some 40) ∧ (arT Tryz.prog 26 = none) ∧ (ikT Tryz.prog 26 = none) ∧ (zrT Tryz.prog 26 = some [.i .i64 0, .i .i64 0, .ns]) ∧ (plcT Tryz.prog 26 = some [(0, 1), (1, 1), (2, 1)]) ∧ (fdT Tryz.prog 26 0 = some (0, 3)) ∧ (fdT Tryz.prog 26 1 = some (1, 3)) ∧ (fdT Tryz.prog 26 2 = some (2, 24)) ∧ (aggT Tryz.prog 27 = some false) ∧ (szT Tryz.prog 27 = some 1) ∧ (byT Tryz.prog 27 = some 8) ∧ (arT Tryz.prog 27 = none) ∧ (ikT Tryz.prog 27 = some .i64) ∧ (zrT Tryz.prog 27 = some [.i .i64 0]) ∧ (aggT Tryz.prog 30 = some false) ∧ (szT Tryz.prog 30 = some 1) ∧ (byT Tryz.prog 30 = some 8) ∧ (arT Tryz.prog 30 = none) ∧ (ikT Tryz.prog 30 = some .u64) ∧ (zrT Tryz.prog 30 = some [.i .u64 0]) ∧ (aggT Tryz.prog 31 = some false) ∧ (szT Tryz.prog 31 = some 1) ∧ (byT Tryz.prog 31 = some 24) ∧ (elT Tryz.prog 31 = some 95) ∧ (arT Tryz.prog 31 = none) ∧ (ikT Tryz.prog 31 = none) ∧ (strT Tryz.prog 31 = false) ∧ (srcT Tryz.prog 31 = true) ∧ (zrT Tryz.prog 31 = some [.ns]) ∧ (aggT Tryz.prog 32 = some true) ∧ (szT Tryz.prog 32 = some 2) ∧ (byT Tryz.prog 32 = some 32) ∧ (arT Tryz.prog 32 = none) ∧ (ikT Tryz.prog 32 = none) ∧ (zrT Tryz.prog 32 = some [.i .i64 0, .ns]) ∧ (plcT Tryz.prog 32 = some [(0, 1), (1, 1)]) ∧ (fdT Tryz.prog 32 0 = some (0, 3)) ∧ (fdT Tryz.prog 32 1 = some (1, 31)) ∧ (aggT Tryz.prog 33 = some true) ∧ (szT Tryz.prog 33 = some 2) ∧ (byT Tryz.prog 33 = some 32) ∧ (arT Tryz.prog 33 = none) ∧ (ikT Tryz.prog 33 = none) ∧ (zrT Tryz.prog 33 = some [.i .i64 0, .ns]) ∧ (plcT Tryz.prog 33 = some [(0, 1), (1, 1)]) ∧ (fdT Tryz.prog 33 0 = some (0, 3)) ∧ (fdT Tryz.prog 33 1 = some (1, 31)) ∧ (aggT Tryz.prog 35 = some false) ∧ (szT Tryz.prog 35 = some 1) ∧ (byT Tryz.prog 35 = some 24) ∧ (elT Tryz.prog 35 = some 3) ∧ (arT Tryz.prog 35 = none) ∧ (ikT Tryz.prog 35 = none) ∧ (strT Tryz.prog 35 = false) ∧ (srcT Tryz.prog 35 = true) ∧ (zrT Tryz.prog 35 = some [.ns]) ∧ (aggT Tryz.prog 36 = some true) ∧ (szT Tryz.prog 36 = some 4) ∧ (byT Tryz.prog 36 = some 80) ∧ (arT Tryz.prog 36 = none) ∧ (ikT Tryz.prog 36 = none) ∧ (zrT Tryz.prog 36 = some [.i .i64 0, .ns, .ns, .ns]) ∧ (plcT Tryz.prog 36 = some [(0, 2), (2, 1), (3, 1)]) ∧ (fdT Tryz.prog 36 0 = some (0, 33)) ∧ (fdT Tryz.prog 36 1 = some (2, 35)) ∧ (fdT Tryz.prog 36 2 = some (3, 35)) ∧ (aggT Tryz.prog 37 = some true) ∧ (szT Tryz.prog 37 = some 4) ∧ (byT Tryz.prog 37 = some 80) ∧ (arT Tryz.prog 37 = none) ∧ (ikT Tryz.prog 37 = none) ∧ (zrT Tryz.prog 37 = some [.i .i64 0, .ns, .ns, .ns]) ∧ (plcT Tryz.prog 37 = some [(0, 2), (2, 1), (3, 1)]) ∧ (fdT Tryz.prog 37 0 = some (0, 33)) ∧ (fdT Tryz.prog 37 1 = some (2, 35)) ∧ (fdT Tryz.prog 37 2 = some (3, 35)) ∧ (aggT Tryz.prog 38 = some true) ∧ (szT Tryz.prog 38 = some 4) ∧ (byT Tryz.prog 38 = some 48) ∧ (arT Tryz.prog 38 = none) ∧ (ikT Tryz.prog 38 = none) ∧ (zrT Tryz.prog 38 = some [.i .i64 0, .i .i64 0, .i .i64 0, .ns]) ∧ (plcT Tryz.prog 38 = some [(0, 1), (1, 1), (2, 2)]) ∧ (fdT Tryz.prog 38 0 = some (0, 3)) ∧ (fdT Tryz.prog 38 1 = some (1, 3)) ∧ (fdT Tryz.prog 38 2 = some (2, 33)) ∧ (aggT Tryz.prog 39 = some true) ∧ (szT Tryz.prog 39 = some 4) ∧ (byT Tryz.prog 39 = some 48) ∧ (arT Tryz.prog 39 = none) ∧ (ikT Tryz.prog 39 = none) ∧ (zrT Tryz.prog 39 = some [.i .i64 0, .i .i64 0, .i .i64 0, .ns]) ∧ (plcT Tryz.prog 39 = some [(0, 1), (1, 1), (2, 2)]) ∧ (fdT Tryz.prog 39 0 = some (0, 3)) ∧ (fdT Tryz.prog 39 1 = some (1, 3)) ∧ (fdT Tryz.prog 39 2 = some (2, 33)) ∧ (aggT Tryz.prog 40 = some true) ∧ (szT Tryz.prog 40 = some 9) ∧ (byT Tryz.prog 40 = some 136) ∧ (arT Tryz.prog 40 = none) ∧ (ikT Tryz.prog 40 = none) ∧ (zrT Tryz.prog 40 = some [.i .i64 0, .i .i64 0, .i .i64 0, .i .i64 0, .ns, .i .i64 0, .ns, .ns, .ns]) ∧ (plcT Tryz.prog 40 = some [(0, 1), (1, 4), (5, 2), (7, 1), (8, 1)]) ∧ (fdT Tryz.prog 40 0 = some (0, 3)) ∧ (fdT Tryz.prog 40 1 = some (1, 39)) ∧ (fdT Tryz.prog 40 2 = some (5, 33)) ∧ (fdT Tryz.prog 40 3 = some (7, 35)) ∧ (fdT Tryz.prog 40 4 = some (8, 35)) ∧ (aggT Tryz.prog 41 = some true) ∧ (szT Tryz.prog 41 = some 9) ∧ (byT Tryz.prog 41 = some 136) ∧ (arT Tryz.prog 41 = none) ∧ (ikT Tryz.prog 41 = none) ∧ (zrT Tryz.prog 41 = some [.i .i64 0, .i .i64 0, .i .i64 0, .i .i64 0, .ns, .i .i64 0, .ns, .ns, .ns]) ∧ (plcT Tryz.prog 41 = some [(0, 1), (1, 4), (5, 2), (7, 1), (8, 1)]) ∧ (fdT Tryz.prog 41 0 = some (0, 3)) ∧ (fdT Tryz.prog 41 1 = some (1, 39)) ∧ (fdT Tryz.prog 41 2 = some (5, 33)) ∧ (fdT Tryz.prog 41 3 = some (7, 35)) ∧ (fdT Tryz.prog 41 4 = some (8, 35)) ∧ (aggT Tryz.prog 42 = some true) ∧ (szT Tryz.prog 42 = some 8) ∧ (byT Tryz.prog 42 = some 96) ∧ (arT Tryz.prog 42 = none) ∧ (ikT Tryz.prog 42 = none) ∧ (zrT Tryz.prog 42 = some [.i .i64 0, .i .i64 0, .i .i64 0, .i .i64 0, .i .i64 0, .ns, .i .i64 0, .ns]) ∧ (plcT Tryz.prog 42 = some [(0, 1), (1, 1), (2, 4), (6, 2)]) ∧ (fdT Tryz.prog 42 0 = some (0, 3)) ∧ (fdT Tryz.prog 42 1 = some (1, 3)) ∧ (fdT Tryz.prog 42 2 = some (2, 39)) ∧ (fdT Tryz.prog 42 3 = some (6, 33)) ∧ (aggT Tryz.prog 43 = some true) ∧ (szT Tryz.prog 43 = some 8) ∧ (byT Tryz.prog 43 = some 96) ∧ (arT Tryz.prog 43 = none) ∧ (ikT Tryz.prog 43 = none) ∧ (zrT Tryz.prog 43 = some [.i .i64 0, .i .i64 0, .i .i64 0, .i .i64 0, .i .i64 0, .ns, .i .i64 0, .ns]) ∧ (plcT Tryz.prog 43 = some [(0, 1), (1, 1), (2, 4), (6, 2)]) ∧ (fdT Tryz.prog 43 0 = some (0, 3)) ∧ (fdT Tryz.prog 43 1 = some (1, 3)) ∧ (fdT Tryz.prog 43 2 = some (2, 39)) ∧ (fdT Tryz.prog 43 3 = some (6, 33)) ∧ (aggT Tryz.prog 44 = some true) ∧ (szT Tryz.prog 44 = some 22) ∧ (byT Tryz.prog 44 = some 320) ∧ (arT Tryz.prog 44 = none) ∧ (ikT Tryz.prog 44 = none) ∧ (zrT Tryz.prog 44 = some [.i .i64 0, .i .i64 0, .ns, .ns, .ns, .i .i64 0, .i .i64 0, .i .i64 0, .i .i64 0, .ns, .i .i64 0, .ns, .ns, .ns, .i .i64 0, .i .i64 0, .i .i64 0, .i .i64 0, .i .i64 0, .ns, .i .i64 0, .ns]) ∧ (plcT Tryz.prog 44 = some [(0, 1), (1, 4), (5, 9), (14, 8)]) ∧ (fdT Tryz.prog 44 0 = some (0, 3)) ∧ (fdT Tryz.prog 44 1 = some (1, 37)) ∧ (fdT Tryz.prog 44 2 = some (5, 41)) ∧ (fdT Tryz.prog 44 3 = some (14, 43)) ∧ (aggT Tryz.prog 45 = some true) ∧ (szT Tryz.prog 45 = some 22) ∧ (byT Tryz.prog 45 = some 320) ∧ (arT Tryz.prog 45 = none) ∧ (ikT Tryz.prog 45 = none) ∧ (zrT Tryz.prog 45 = some [.i .i64 0, .i .i64 0, .ns, .ns, .ns, .i .i64 0, .i .i64 0, .i .i64 0, .i .i64 0, .ns, .i .i64 0, .ns, .ns, .ns, .i .i64 0, .i .i64 0, .i .i64 0, .i .i64 0, .i .i64 0, .ns, .i .i64 0, .ns]) ∧ (plcT Tryz.prog 45 = some [(0, 1), (1, 4), (5, 9), (14, 8)]) ∧ (fdT Tryz.prog 45 0 = some (0, 3)) ∧ (fdT Tryz.prog 45 1 = some (1, 37)) ∧ (fdT Tryz.prog 45 2 = some (5, 41)) ∧ (fdT Tryz.prog 45 3 = some (14, 43)) ∧ (aggT Tryz.prog 47 = some false) ∧ (szT Tryz.prog 47 = some 1) ∧ (aggT Tryz.prog 52 = some false) ∧ (szT Tryz.prog 52 = some 1) ∧ (aggT Tryz.prog 64 = some false) ∧ (szT Tryz.prog 64 = some 1) ∧ (aggT Tryz.prog 65 = some false) ∧ (szT Tryz.prog 65 = some 1) ∧ (aggT Tryz.prog 66 = some false) ∧ (szT Tryz.prog 66 = some 1) ∧ (byT Tryz.prog 66 = some 24) ∧ (elT Tryz.prog 66 = some 4) ∧ (arT Tryz.prog 66 = none) ∧ (ikT Tryz.prog 66 = none) ∧ (strT Tryz.prog 66 = false) ∧ (srcT Tryz.prog 66 = true) ∧ (zrT Tryz.prog 66 = some [.ns]) ∧ (aggT Tryz.prog 71 = some false) ∧ (szT Tryz.prog 71 = some 1) ∧ (aggT Tryz.prog 72 = some false) ∧ (szT Tryz.prog 72 = some 1) ∧ (aggT Tryz.prog 78 = some true) ∧ (szT Tryz.prog 78 = some 2) ∧ (byT Tryz.prog 78 = some 16) ∧ (arT Tryz.prog 78 = none) ∧ (ikT Tryz.prog 78 = none) ∧ (zrT Tryz.prog 78 = some [.i .i64 0, .i .i64 0]) ∧ (eqT Tryz.prog 78 = some [(0, 3), (1, 3)]) ∧ (plcT Tryz.prog 78 = some [(0, 1), (1, 1)]) ∧ (fdT Tryz.prog 78 0 = some (0, 3)) ∧ (fdT Tryz.prog 78 1 = some (1, 3)) ∧ (aggT Tryz.prog 79 = some true) ∧ (szT Tryz.prog 79 = some 2) ∧ (byT Tryz.prog 79 = some 16) ∧ (arT Tryz.prog 79 = none) ∧ (ikT Tryz.prog 79 = none) ∧ (zrT Tryz.prog 79 = some [.i .i64 0, .i .i64 0]) ∧ (eqT Tryz.prog 79 = some [(0, 3), (1, 3)]) ∧ (plcT Tryz.prog 79 = some [(0, 1), (1, 1)]) ∧ (fdT Tryz.prog 79 0 = some (0, 3)) ∧ (fdT Tryz.prog 79 1 = some (1, 3)) ∧ (aggT Tryz.prog 80 = some true) ∧ (szT Tryz.prog 80 = some 18) ∧ (byT Tryz.prog 80 = some 144) ∧ (elT Tryz.prog 80 = none) ∧ (arT Tryz.prog 80 = some (9, 79)) ∧ (ikT Tryz.prog 80 = none) ∧ (zrT Tryz.prog 80 = some [.i .i64 0, .i .i64 0, .i .i64 0, .i .i64 0, .i .i64 0, .i .i64 0, .i .i64 0, .i .i64 0, .i .i64 0, .i .i64 0, .i .i64 0, .i .i64 0, .i .i64 0, .i .i64 0, .i .i64 0, .i .i64 0, .i .i64 0, .i .i64 0]) ∧ (aggT Tryz.prog 83 = some false) ∧ (szT Tryz.prog 83 = some 1) ∧ (aggT Tryz.prog 95 = some false) ∧ (szT Tryz.prog 95 = some 1) ∧ (byT Tryz.prog 95 = some 8) ∧ (arT Tryz.prog 95 = none) ∧ (ikT Tryz.prog 95 = some .u64) ∧ (zrT Tryz.prog 95 = some [.i .u64 0]) ∧ (aggT Tryz.prog 102 = some false) ∧ (szT Tryz.prog 102 = some 1) ∧ (aggT Tryz.prog 106 = some false) ∧ (szT Tryz.prog 106 = some 1) ∧ (aggT Tryz.prog 107 = some false) ∧ (szT Tryz.prog 107 = some 1) ∧ (aggT Tryz.prog 113 = some false) ∧ (szT Tryz.prog 113 = some 1) ∧ (aggT Tryz.prog 127 = some false) ∧ (szT Tryz.prog 127 = some 1) ∧ (byT Tryz.prog 127 = some 24) ∧ (elT Tryz.prog 127 = some 33) ∧ (arT Tryz.prog 127 = none) ∧ (ikT Tryz.prog 127 = none) ∧ (strT Tryz.prog 127 = false) ∧ (srcT Tryz.prog 127 = true) ∧ (zrT Tryz.prog 127 = some [.ns]) ∧ (aggT Tryz.prog 129 = some false) ∧ (szT Tryz.prog 129 = some 1) ∧ (aggT Tryz.prog 130 = some false) ∧ (szT Tryz.prog 130 = some 1) ∧ (aggT Tryz.prog 131 = some false) ∧ (szT Tryz.prog 131 = some 1) ∧ (aggT Tryz.prog 134 = some true) ∧ (szT Tryz.prog 134 = some 2) ∧ (byT Tryz.prog 134 = some 16) ∧ (arT Tryz.prog 134 = none) ∧ (ikT Tryz.prog 134 = none) ∧ (zrT Tryz.prog 134 = some [.i .i64 0, .i .u64 0]) ∧ (eqT Tryz.prog 134 = some [(0, 3), (1, 95)]) ∧ (plcT Tryz.prog 134 = some [(0, 1), (1, 1)]) ∧ (fdT Tryz.prog 134 0 = some (0, 3)) ∧ (fdT Tryz.prog 134 1 = some (1, 95)) ∧ (aggT Tryz.prog 135 = some true) ∧ (szT Tryz.prog 135 = some 2) ∧ (byT Tryz.prog 135 = some 16) ∧ (arT Tryz.prog 135 = none) ∧ (ikT Tryz.prog 135 = none) ∧ (zrT Tryz.prog 135 = some [.i .i64 0, .i .u64 0]) ∧ (eqT Tryz.prog 135 = some [(0, 3), (1, 95)]) ∧ (plcT Tryz.prog 135 = some [(0, 1), (1, 1)]) ∧ (fdT Tryz.prog 135 0 = some (0, 3)) ∧ (fdT Tryz.prog 135 1 = some (1, 95)) ∧ (aggT Tryz.prog 136 = some false) ∧ (szT Tryz.prog 136 = some 1) ∧ (aggT Tryz.prog 137 = some false) ∧ (szT Tryz.prog 137 = some 1) ∧ (aggT Tryz.prog 141 = some false) ∧ (szT Tryz.prog 141 = some 1) ∧ (aggT Tryz.prog 143 = some false) ∧ (szT Tryz.prog 143 = some 1) ∧ (aggT Tryz.prog 144 = some false) ∧ (szT Tryz.prog 144 = some 1) ∧ (aggT Tryz.prog 145 = some false) ∧ (szT Tryz.prog 145 = some 1) ∧ (aggT Tryz.prog 159 = some false) ∧ (szT Tryz.prog 159 = some 1) ∧ (aggT Tryz.prog 161 = some false) ∧ (szT Tryz.prog 161 = some 1) ∧ (aggT Tryz.prog 168 = some false) ∧ (szT Tryz.prog 168 = some 1) ∧ (aggT Tryz.prog 172 = some false) ∧ (szT Tryz.prog 172 = some 1) ∧ (aggT Tryz.prog 174 = some false) ∧ (szT Tryz.prog 174 = some 1) ∧ (aggT Tryz.prog 177 = some false) ∧ (szT Tryz.prog 177 = some 1) ∧ (aggT Tryz.prog 178 = some false) ∧ (szT Tryz.prog 178 = some 1) ∧ (aggT Tryz.prog 181 = some false) ∧ (szT Tryz.prog 181 = some 1) ∧ (aggT Tryz.prog 182 = some false) ∧ (szT Tryz.prog 182 = some 1) ∧ (aggT Tryz.prog 187 = some false) ∧ (szT Tryz.prog 187 = some 1) ∧ (aggT Tryz.prog 190 = some false) ∧ (szT Tryz.prog 190 = some 1) ∧ (aggT Tryz.prog 192 = some false) ∧ (szT Tryz.prog 192 = some 1) ∧ (aggT Tryz.prog 197 = some false) ∧ (szT Tryz.prog 197 = some 1) ∧ (aggT Tryz.prog 198 = some false) ∧ (szT Tryz.prog 198 = some 1) ∧ (byT Tryz.prog 198 = some 8) ∧ (arT Tryz.prog 198 = none) ∧ (ikT Tryz.prog 198 = some .i64) ∧ (zrT Tryz.prog 198 = some [.i .i64 0]) ∧ (aggT Tryz.prog 201 = some false) ∧ (szT Tryz.prog 201 = some 1) ∧ (aggT Tryz.prog 202 = some false) ∧ (szT Tryz.prog 202 = some 1) ∧ (aggT Tryz.prog 204 = some false) ∧ (szT Tryz.prog 204 = some 1) ∧ (aggT Tryz.prog 205 = some false) ∧ (szT Tryz.prog 205 = some 1) ∧ (aggT Tryz.prog 206 = some false) ∧ (szT Tryz.prog 206 = some 1) ∧ (byT Tryz.prog 206 = some 4) ∧ (arT Tryz.prog 206 = none) ∧ (ikT Tryz.prog 206 = some .u32) ∧ (zrT Tryz.prog 206 = some [.i .u32 0]) ∧ (aggT Tryz.prog 207 = some false) ∧ (szT Tryz.prog 207 = some 1) ∧ (byT Tryz.prog 207 = some 24) ∧ (elT Tryz.prog 207 = some 31) ∧ (arT Tryz.prog 207 = none) ∧ (ikT Tryz.prog 207 = none) ∧ (strT Tryz.prog 207 = false) ∧ (srcT Tryz.prog 207 = true) ∧ (zrT Tryz.prog 207 = some [.ns]) ∧ (aggT Tryz.prog 208 = some false) ∧ (szT Tryz.prog 208 = some 1) ∧ (aggT Tryz.prog 209 = some true) ∧ (szT Tryz.prog 209 = some 63) ∧ (byT Tryz.prog 209 = some 504) ∧ (elT Tryz.prog 209 = none) ∧ (arT Tryz.prog 209 = some (63, 95)) ∧ (ikT Tryz.prog 209 = none) ∧ (zrT Tryz.prog 209 = some (List.replicate 63 (.i .u64 0))) ∧ (aggT Tryz.prog 210 = some true) ∧ (szT Tryz.prog 210 = some 63) ∧ (byT Tryz.prog 210 = some 504) ∧ (elT Tryz.prog 210 = none) ∧ (arT Tryz.prog 210 = some (63, 95)) ∧ (ikT Tryz.prog 210 = none) ∧ (zrT Tryz.prog 210 = some (List.replicate 63 (.i .u64 0))) ∧ (aggT Tryz.prog 211 = some false) ∧ (szT Tryz.prog 211 = some 1) ∧ (aggT Tryz.prog 213 = some false) ∧ (szT Tryz.prog 213 = some 1) ∧ (aggT Tryz.prog 214 = some true) ∧ (szT Tryz.prog 214 = some 64) ∧ (byT Tryz.prog 214 = some 64) ∧ (elT Tryz.prog 214 = none) ∧ (arT Tryz.prog 214 = some (64, 5)) ∧ (ikT Tryz.prog 214 = none) ∧ (zrT Tryz.prog 214 = some (List.replicate 64 (.i .u8 0))) ∧ (aggT Tryz.prog 215 = some false) ∧ (szT Tryz.prog 215 = some 1) ∧ (byT Tryz.prog 215 = some 16) ∧ (arT Tryz.prog 215 = none) ∧ (ikT Tryz.prog 215 = none) ∧ (ifT Tryz.prog 215 = true) ∧ (zrT Tryz.prog 215 = some [.ni]) ∧ (aggT Tryz.prog 216 = some false) ∧ (szT Tryz.prog 216 = some 1) ∧ (byT Tryz.prog 216 = some 16) ∧ (arT Tryz.prog 216 = none) ∧ (ikT Tryz.prog 216 = none) ∧ (ifT Tryz.prog 216 = true) ∧ (zrT Tryz.prog 216 = some [.ni]) ∧ (aggT Tryz.prog 219 = some false) ∧ (szT Tryz.prog 219 = some 1) ∧ (byT Tryz.prog 219 = some 8) ∧ (arT Tryz.prog 219 = none) ∧ (ikT Tryz.prog 219 = some .u64) ∧ (zrT Tryz.prog 219 = some [.i .u64 0]) ∧ (aggT Tryz.prog 220 = some false) ∧ (szT Tryz.prog 220 = some 1) ∧ (aggT Tryz.prog 221 = some false) ∧ (szT Tryz.prog 221 = some 1) ∧ (aggT Tryz.prog 222 = some false) ∧ (szT Tryz.prog 222 = some 1) ∧ (aggT Tryz.prog 223 = some false) ∧ (szT Tryz.prog 223 = some 1) ∧ (byT Tryz.prog 223 = some 8) ∧ (arT Tryz.prog 223 = none) ∧ (ikT Tryz.prog 223 = none) ∧ (zrT Tryz.prog 223 = some [.np]) ∧ (aggT Tryz.prog 224 = some false) ∧ (szT Tryz.prog 224 = some 1) ∧ (aggT Tryz.prog 225 = some false) ∧ (szT Tryz.prog 225 = some 1) ∧ (byT Tryz.prog 225 = some 8) ∧ (arT Tryz.prog 225 = none) ∧ (ikT Tryz.prog 225 = none) ∧ (zrT Tryz.prog 225 = some [.np]) ∧ (aggT Tryz.prog 226 = some false) ∧ (szT Tryz.prog 226 = some 1) ∧ (byT Tryz.prog 226 = some 8) ∧ (arT Tryz.prog 226 = none) ∧ (ikT Tryz.prog 226 = none) ∧ (zrT Tryz.prog 226 = some [.np]) ∧ (aggT Tryz.prog 227 = some true) ∧ (szT Tryz.prog 227 = some 1) ∧ (byT Tryz.prog 227 = some 8) ∧ (arT Tryz.prog 227 = none) ∧ (ikT Tryz.prog 227 = none) ∧ (zrT Tryz.prog 227 = some [.i .i64 0]) ∧ (eqT Tryz.prog 227 = some [(0, 27)]) ∧ (plcT Tryz.prog 227 = some [(0, 1)]) ∧ (fdT Tryz.prog 227 0 = some (0, 27)) ∧ (aggT Tryz.prog 228 = some true) ∧ (szT Tryz.prog 228 = some 1) ∧ (byT Tryz.prog 228 = some 8) ∧ (arT Tryz.prog 228 = none) ∧ (ikT Tryz.prog 228 = none) ∧ (zrT Tryz.prog 228 = some [.i .i64 0]) ∧ (eqT Tryz.prog 228 = some [(0, 27)]) ∧ (plcT Tryz.prog 228 = some [(0, 1)]) ∧ (fdT Tryz.prog 228 0 = some (0, 27)) ∧ (aggT Tryz.prog 229 = some false) ∧ (szT Tryz.prog 229 = some 1) ∧ (aggT Tryz.prog 230 = some false) ∧ (szT Tryz.prog 230 = some 1) ∧ (byT Tryz.prog 230 = some 8) ∧ (arT Tryz.prog 230 = none) ∧ (ikT Tryz.prog 230 = none) ∧ (zrT Tryz.prog 230 = some [.np]) ∧ (aggT Tryz.prog 231 = some false) ∧ (szT Tryz.prog 231 = some 1) ∧ (byT Tryz.prog 231 = some 8) ∧ (arT Tryz.prog 231 = none) ∧ (ikT Tryz.prog 231 = none) ∧ (zrT Tryz.prog 231 = some [.np]) ∧ (aggT Tryz.prog 232 = some false) ∧ (szT Tryz.prog 232 = some 1) ∧ (aggT Tryz.prog 251 = some false) ∧ (szT Tryz.prog 251 = some 1) ∧ (byT Tryz.prog 251 = some 16) ∧ (arT Tryz.prog 251 = none) ∧ (ikT Tryz.prog 251 = none) ∧ (ifT Tryz.prog 251 = true) ∧ (zrT Tryz.prog 251 = some [.ni]) ∧ (aggT Tryz.prog 253 = some false) ∧ (szT Tryz.prog 253 = some 1) ∧ (aggT Tryz.prog 254 = some false) ∧ (szT Tryz.prog 254 = some 1) ∧ (byT Tryz.prog 254 = some 16) ∧ (arT Tryz.prog 254 = none) ∧ (ikT Tryz.prog 254 = none) ∧ (ifT Tryz.prog 254 = true) ∧ (zrT Tryz.prog 254 = some [.ni]) ∧ (aggT Tryz.prog 255 = some false) ∧ (szT Tryz.prog 255 = some 1) ∧ (aggT Tryz.prog 256 = some false) ∧ (szT Tryz.prog 256 = some 1) ∧ (byT Tryz.prog 256 = some 16) ∧ (arT Tryz.prog 256 = none) ∧ (ikT Tryz.prog 256 = none) ∧ (ifT Tryz.prog 256 = true) ∧ (zrT Tryz.prog 256 = some [.ni]) ∧ (aggT Tryz.prog 257 = some false) ∧ (szT Tryz.prog 257 = some 1) ∧ (byT Tryz.prog 257 = some 24) ∧ (elT Tryz.prog 257 = some 216) ∧ (arT Tryz.prog 257 = none) ∧ (ikT Tryz.prog 257 = none) ∧ (strT Tryz.prog 257 = false) ∧ (srcT Tryz.prog 257 = true) ∧ (zrT Tryz.prog 257 = some [.ns]) ∧ (aggT Tryz.prog 258 = some false) ∧ (szT Tryz.prog 258 = some 1) ∧ (aggT Tryz.prog 259 = some false) ∧ (szT Tryz.prog 259 = some 1) ∧ (aggT Tryz.prog 265 = some false) ∧ (szT Tryz.prog 265 = some 1) ∧ (aggT Tryz.prog 269 = some false) ∧ (szT Tryz.prog 269 = some 1) ∧ (byT Tryz.prog 269 = some 8) ∧ (arT Tryz.prog 269 = none) ∧ (ikT Tryz.prog 269 = none) ∧ (zrT Tryz.prog 269 = some [.np]) ∧ (aggT Tryz.prog 274 = some false) ∧ (szT Tryz.prog 274 = some 1) ∧ (aggT Tryz.prog 280 = some false) ∧ (szT Tryz.prog 280 = some 1) ∧ (byT Tryz.prog 280 = some 2) ∧ (arT Tryz.prog 280 = none) ∧ (ikT Tryz.prog 280 = some .u16) ∧ (zrT Tryz.prog 280 = some [.i .u16 0]) ∧ (aggT Tryz.prog 287 = some false) ∧ (szT Tryz.prog 287 = some 1) ∧ (byT Tryz.prog 287 = some 8) ∧ (arT Tryz.prog 287 = none) ∧ (ikT Tryz.prog 287 = none) ∧ (zrT Tryz.prog 287 = some [.np]) := ⟨agg_1, sz_1, agg_2, sz_2, by_2, ar_2, ik_2, zr_2, agg_3, sz_3, by_3, ar_3, ik_3, zr_3, agg_4, sz_4, by_4, ar_4, ik_4, bol_4, zr_4, agg_5, sz_5, by_5, ar_5, ik_5, zr_5, agg_9, sz_9, by_9, ar_9, str_9, ik_9, src_9, zr_9, agg_12, sz_12, by_12, ar_12, ik_12, zr_12, agg_20, sz_20, by_20, ar_20, ik_20, if_20, zr_20, agg_21, sz_21, by_21, ar_21, ik_21, zr_21, agg_22, sz_22, by_22, el_22, ar_22, ik_22, str_22, src_22, zr_22, agg_23, sz_23, agg_24, sz_24, by_24, el_24, ar_24, ik_24, str_24, src_24, zr_24, agg_25, sz_25, by_25, ar_25, ik_25, zr_25, plc_25, fd0_25, fd1_25, fd2_25, agg_26, sz_26, by_26, ar_26, ik_26, zr_26, plc_26, fd0_26, fd1_26, fd2_26, agg_27, sz_27, by_27, ar_27, ik_27, zr_27, agg_30, sz_30, by_30, ar_30, ik_30, zr_30, agg_31, sz_31, by_31, el_31, ar_31, ik_31, str_31, src_31, zr_31, agg_32, sz_32, by_32, ar_32, ik_32, zr_32, plc_32, fd0_32, fd1_32, agg_33, sz_33, by_33, ar_33, ik_33, zr_33, plc_33, fd0_33, fd1_33, agg_35, sz_35, by_35, el_35, ar_35, ik_35, str_35, src_35, zr_35, agg_36, sz_36, by_36, ar_36, ik_36, zr_36, plc_36, fd0_36, fd1_36, fd2_36, agg_37, sz_37, by_37, ar_37, ik_37, zr_37, plc_37, fd0_37, fd1_37, fd2_37, agg_38, sz_38, by_38, ar_38, ik_38, zr_38, plc_38, fd0_38, fd1_38, fd2_38, agg_39, sz_39, by_39, ar_39, ik_39, zr_39, plc_39, fd0_39, fd1_39, fd2_39, agg_40, sz_40, by_40, ar_40, ik_40, zr_40, plc_40, fd0_40, fd1_40, fd2_40, fd3_40, fd4_40, agg_41, sz_41, by_41, ar_41, ik_41, zr_41, plc_41, fd0_41, fd1_41, fd2_41, fd3_41, fd4_41, agg_42, sz_42, by_42, ar_42, ik_42, zr_42, plc_42, fd0_42, fd1_42, fd2_42, fd3_42, agg_43, sz_43, by_43, ar_43, ik_43, zr_43, plc_43, fd0_43, fd1_43, fd2_43, fd3_43, agg_44, sz_44, by_44, ar_44, ik_44, zr_44, plc_44, fd0_44, fd1_44, fd2_44, fd3_44, agg_45, sz_45, by_45, ar_45, ik_45, zr_45, plc_45, fd0_45, fd1_45, fd2_45, fd3_45, agg_47, sz_47, agg_52, sz_52, agg_64, sz_64, agg_65, sz_65, agg_66, sz_66, by_66, el_66, ar_66, ik_66, str_66, src_66, zr_66, agg_71, sz_71, agg_72, sz_72, agg_78, sz_78, by_78, ar_78, ik_78, zr_78, eq_78, plc_78, fd0_78, fd1_78, agg_79, sz_79, by_79, ar_79, ik_79, zr_79, eq_79, plc_79, fd0_79, fd1_79, agg_80, sz_80, by_80, el_80, ar_80, ik_80, zr_80, agg_83, sz_83, agg_95, sz_95, by_95, ar_95, ik_95, zr_95, agg_102, sz_102, agg_106, sz_106, agg_107, sz_107, agg_113, sz_113, agg_127, sz_127, by_127, el_127, ar_127, ik_127, str_127, src_127, zr_127, agg_129, sz_129, agg_130, sz_130, agg_131, sz_131, agg_134, sz_134, by_134, ar_134, ik_134, zr_134, eq_134, plc_134, fd0_134, fd1_134, agg_135, sz_135, by_135, ar_135, ik_135, zr_135, eq_135, plc_135, fd0_135, fd1_135, agg_136, sz_136, agg_137, sz_137, agg_141, sz_141, agg_143, sz_143, agg_144, sz_144, agg_145, sz_145, agg_159, sz_159, agg_161, sz_161, agg_168, sz_168, agg_172, sz_172, agg_174, sz_174, agg_177, sz_177, agg_178, sz_178, agg_181, sz_181, agg_182, sz_182, agg_187, sz_187, agg_190, sz_190, agg_192, sz_192, agg_197, sz_197, agg_198, sz_198, by_198, ar_198, ik_198, zr_198, agg_201, sz_201, agg_202, sz_202, agg_204, sz_204, agg_205, sz_205, agg_206, sz_206, by_206, ar_206, ik_206, zr_206, agg_207, sz_207, by_207, el_207, ar_207, ik_207, str_207, src_207, zr_207, agg_208, sz_208, agg_209, sz_209, by_209, el_209, ar_209, ik_209, zr_209, agg_210, sz_210, by_210, el_210, ar_210, ik_210, zr_210, agg_211, sz_211, agg_213, sz_213, agg_214, sz_214, by_214, el_214, ar_214, ik_214, zr_214, agg_215, sz_215, by_215, ar_215, ik_215, if_215, zr_215, agg_216, sz_216, by_216, ar_216, ik_216, if_216, zr_216, agg_219, sz_219, by_219, ar_219, ik_219, zr_219, agg_220, sz_220, agg_221, sz_221, agg_222, sz_222, agg_223, sz_223, by_223, ar_223, ik_223, zr_223, agg_224, sz_224, agg_225, sz_225, by_225, ar_225, ik_225, zr_225, agg_226, sz_226, by_226, ar_226, ik_226, zr_226, agg_227, sz_227, by_227, ar_227, ik_227, zr_227, eq_227, plc_227, fd0_227, agg_228, sz_228, by_228, ar_228, ik_228, zr_228, eq_228, plc_228, fd0_228, agg_229, sz_229, agg_230, sz_230, by_230, ar_230, ik_230, zr_230, agg_231, sz_231, by_231, ar_231, ik_231, zr_231, agg_232, sz_232, agg_251, sz_251, by_251, ar_251, ik_251, if_251, zr_251, agg_253, sz_253, agg_254, sz_254, by_254, ar_254, ik_254, if_254, zr_254, agg_255, sz_255, agg_256, sz_256, by_256, ar_256, ik_256, if_256, zr_256, agg_257, sz_257, by_257, el_257, ar_257, ik_257, str_257, src_257, zr_257, agg_258, sz_258, agg_259, sz_259, agg_265, sz_265, agg_269, sz_269, by_269, ar_269, ik_269, zr_269, agg_274, sz_274, agg_280, sz_280, by_280, ar_280, ik_280, zr_280, agg_287, sz_287, by_287, ar_287, ik_287, zr_287⟩
end Go.Proofs.E
end
/- The machine of values: one run of simp, at a program. -/
section
set_option linter.unusedVariables false
set_option linter.unusedSimpArgs false
set_option linter.unusedSectionVars false
namespace Go.Proofs.E
open Go
/-- One run of simp. -/
theorem go {p q : Prop} (h : q) (e : p = q := by
    simp (disch := first | omega | (simp only [List.length_set, List.length_append, List.length_replicate, List.length_take, List.length_drop, List.length_cons, List.length_nil]; omega)) only [T, W_skip, W_reg, W_drw, W_seq, W_cond, W_blk, W_loop, W_scope, W_label, scoK_n, scoK_r, scoK_e, W_exit, W_ret, seqK_n, seqK_e, seqK_r, blkK_n, blkK_r, blkK_e, bodyK_n, bodyK_r, loopX_n, loopX_e, loopX_r,  OpsW_nil, OpsW_cons, OpsQ_nil, OpsQ_cons, OpsL_nil, OpsL_cons, OpLs_eq, OpL, updF, mskF, List.find?_cons, List.find?_nil, List.any_cons, List.any_nil, Bool.or_false, Bool.false_or, Bool.or_true, Bool.true_or, OpsM_nil, OpsM_cons, OpMs_eq, OpM, wrS, stpP, kOt, OpWs_eq, OpQs_eq, kOp_eq, kOq_eq, OpW, OpQ, kQ, inFz, fzO, fzV, gdV, callW, callQ, stp, ldV, binV, nilB, aggB, eqF, isC, Bool.or_true, Bool.or_false, Bool.true_or, Bool.false_or, binI, shiftB, boV, unV, cvV, cvS, mrkV, litO, bytT, strO, nilS, str_nums, all_u8, slV, loV, hiV, srcV, lnV, apV, cpV, biV, fillV, spl_one, spl_none, spl_two, spl_nums, lk, ev, vOf, putV, endK, resV, tupV, argT, V.cells, V.one, Heap.at,
      onS_some, onS_none, andK_true, andK_false, andK_pos, twoK_pos, twoK_neg, onV_some, onG_true, onG_false, onG_deT, onG_deF, onC_true, onC_false, onC_de, onC_not, onC_bq, gV_zero, gV_succ, wI64, wU64, wU8, wU32, cadd, caddl, claddc, cmul, cmull, clmul, csub, csubl, clsub, ctdiv, ctdivl, ctmod, ctmodl, cfdiv, clt, cltl, cllt, cle, clel, clle, ceq, ceql, cleq, dec_t, dec_f, beq_de, bne_de,
      shr_V, andNotN, notN, List.set_set, cltdiv, cltmod, maxN, List.getElem?_append_left, List.set_append_left, List.take_of_length_le, List.drop_drop, maxz, fdiv1, Nat.and_one_is_mod, Nat.sub_zero, addsubl, cfdivl, clfdiv, if_pos, if_neg, List.length_append, List.length_replicate, List.drop_length, List.replicate_one, flat_rep1, drop_rep_self, List.flatten_cons, List.flatten_nil, List.append_assoc, Nat.add_sub_cancel_left, Nat.add_sub_cancel, List.set_append_right, List.length_set, getD_set, ↓mapP_eq, mapP_nil, mapP_cons, bft, btf, modE, minNl, tls_nil, tls_cons, tlv_nil, tlv_cons, tlg_nil, tlg_cons, gcH_nil, gcH_cons, frn, frn_nums, frn_ints, frn_bls, V.i.injEq, V.b.injEq, V.s.injEq, V.agg.injEq, V.tup.injEq, V.sl.injEq, V.o.injEq, V.p.injEq, List.cons.injEq, true_or, or_true, false_or, or_false, c0, cn, Nat.pow_zero, shlI, orI, shlU, shlUl, shl8, shl8l, minl, orN, orNl, andN, andNl, or8, or8l, and8, and8l, andI, andIl,  minb64, minb64', IntKind.bits, ite_b, gV_nums, gV_ints, gV_bls, len_nums, len_ints, len_bls, one_nums, one_ints, one_bls, set_nums, set_numsl, set_ints, set_bls, app_nums, snoc_nums, snoc_numsl, app_ints, snoc_ints, app_bls, snoc_bls, drop_nums, take_nums, drop_ints, take_ints, drop_bls, take_bls, zero_nums, zero_bls, rep_nums, rep_bls, frz_nums, frz_ints, frz_bls, Int.toNat_natCast, gt_iff_lt, ge_iff_le, decide_not, ite_true, ite_false, if_true, if_false, Option.map_some, Option.map_none, Option.isSome_some, Option.isSome_none, Option.bind_some, Option.bind_none, Option.some.injEq, List.contains_nil, List.contains_cons, Nat.reduceBEq, List.all_cons, List.all_nil, Bool.and_true, Bool.true_and, Bool.false_and, Bool.and_false, Bool.not_true, Bool.not_false, and_true, true_and, and_self, not_false_eq_true, not_true_eq_false, ne_eq, Bool.false_eq_true, Bool.true_eq_false, BEq.rfl, reduceCtorEq,
      List.getElem?_cons_zero, List.getElem?_cons_succ, List.getElem?_nil, List.getElem?_toArray, List.drop_zero, List.drop_succ_cons, List.take_succ_cons, List.take_zero, List.length_cons, List.length_nil, List.length_map, List.cons_append, List.nil_append, List.append_nil, List.map_cons, List.map_nil, List.set_cons_zero, List.set_cons_succ, List.getElem?_append_right, List.getD_cons_zero, Nat.le_refl, Nat.zero_add, Nat.add_zero, Nat.sub_self, Nat.mul_one, Nat.one_mul, Nat.le_add_left, implies_true, false_imp_iff, forall_const, ↓reduceIte, Nat.reduceAdd, Nat.reduceSub, Nat.reduceMul, Nat.reduceDiv, Nat.reduceMod, Nat.reduceEqDiff, Nat.reduceLT, Nat.reduceLeDiff, Nat.reducePow, Int.reduceAdd, Int.reduceSub, Int.reduceMul, Int.reduceNeg, Int.reduceLT, Int.reduceLE, Int.reduceEq, Int.reduceToNat, Int.reducePow, Int.reduceTDiv, Int.reduceTMod, decide_true, decide_false]
    <;> first | rfl | skip) : p := e ▸ h
/-- The same, with what is known. -/
theorem gox {p q : Prop} (h : q) (e : p = q := by
    simp (disch := first | omega | (simp only [List.length_set, List.length_append, List.length_replicate, List.length_take, List.length_drop, List.length_cons, List.length_nil]; omega)) only [T, W_skip, W_reg, W_drw, W_seq, W_cond, W_blk, W_loop, W_scope, W_label, scoK_n, scoK_r, scoK_e, W_exit, W_ret, seqK_n, seqK_e, seqK_r, blkK_n, blkK_r, blkK_e, bodyK_n, bodyK_r, loopX_n, loopX_e, loopX_r,  OpsW_nil, OpsW_cons, OpsQ_nil, OpsQ_cons, OpsL_nil, OpsL_cons, OpLs_eq, OpL, updF, mskF, List.find?_cons, List.find?_nil, List.any_cons, List.any_nil, Bool.or_false, Bool.false_or, Bool.or_true, Bool.true_or, OpsM_nil, OpsM_cons, OpMs_eq, OpM, wrS, stpP, kOt, OpWs_eq, OpQs_eq, kOp_eq, kOq_eq, OpW, OpQ, kQ, inFz, fzO, fzV, gdV, callW, callQ, stp, ldV, binV, nilB, aggB, eqF, isC, Bool.or_true, Bool.or_false, Bool.true_or, Bool.false_or, binI, shiftB, boV, unV, cvV, cvS, mrkV, litO, bytT, strO, nilS, str_nums, all_u8, slV, loV, hiV, srcV, lnV, apV, cpV, biV, fillV, spl_one, spl_none, spl_two, spl_nums, lk, ev, vOf, putV, endK, resV, tupV, argT, V.cells, V.one, Heap.at,
      onS_some, onS_none, andK_true, andK_false, andK_pos, twoK_pos, twoK_neg, onV_some, onG_true, onG_false, onG_deT, onG_deF, onC_true, onC_false, onC_de, onC_not, onC_bq, gV_zero, gV_succ, wI64, wU64, wU8, wU32, cadd, caddl, claddc, cmul, cmull, clmul, csub, csubl, clsub, ctdiv, ctdivl, ctmod, ctmodl, cfdiv, clt, cltl, cllt, cle, clel, clle, ceq, ceql, cleq, dec_t, dec_f, beq_de, bne_de,
      shr_V, andNotN, notN, List.set_set, cltdiv, cltmod, maxN, List.getElem?_append_left, List.set_append_left, List.take_of_length_le, List.drop_drop, maxz, fdiv1, Nat.and_one_is_mod, Nat.sub_zero, addsubl, cfdivl, clfdiv, if_pos, if_neg, List.length_append, List.length_replicate, List.drop_length, List.replicate_one, flat_rep1, drop_rep_self, List.flatten_cons, List.flatten_nil, List.append_assoc, Nat.add_sub_cancel_left, Nat.add_sub_cancel, List.set_append_right, List.length_set, getD_set, ↓mapP_eq, mapP_nil, mapP_cons, bft, btf, modE, minNl, tls_nil, tls_cons, tlv_nil, tlv_cons, tlg_nil, tlg_cons, gcH_nil, gcH_cons, frn, frn_nums, frn_ints, frn_bls, V.i.injEq, V.b.injEq, V.s.injEq, V.agg.injEq, V.tup.injEq, V.sl.injEq, V.o.injEq, V.p.injEq, List.cons.injEq, true_or, or_true, false_or, or_false, c0, cn, Nat.pow_zero, shlI, orI, shlU, shlUl, shl8, shl8l, minl, orN, orNl, andN, andNl, or8, or8l, and8, and8l, andI, andIl,  minb64, minb64', IntKind.bits, ite_b, gV_nums, gV_ints, gV_bls, len_nums, len_ints, len_bls, one_nums, one_ints, one_bls, set_nums, set_numsl, set_ints, set_bls, app_nums, snoc_nums, snoc_numsl, app_ints, snoc_ints, app_bls, snoc_bls, drop_nums, take_nums, drop_ints, take_ints, drop_bls, take_bls, zero_nums, zero_bls, rep_nums, rep_bls, frz_nums, frz_ints, frz_bls, Int.toNat_natCast, gt_iff_lt, ge_iff_le, decide_not, ite_true, ite_false, if_true, if_false, Option.map_some, Option.map_none, Option.isSome_some, Option.isSome_none, Option.bind_some, Option.bind_none, Option.some.injEq, List.contains_nil, List.contains_cons, Nat.reduceBEq, List.all_cons, List.all_nil, Bool.and_true, Bool.true_and, Bool.false_and, Bool.and_false, Bool.not_true, Bool.not_false, and_true, true_and, and_self, not_false_eq_true, not_true_eq_false, ne_eq, Bool.false_eq_true, Bool.true_eq_false, BEq.rfl, reduceCtorEq,
      List.getElem?_cons_zero, List.getElem?_cons_succ, List.getElem?_nil, List.getElem?_toArray, List.drop_zero, List.drop_succ_cons, List.take_succ_cons, List.take_zero, List.length_cons, List.length_nil, List.length_map, List.cons_append, List.nil_append, List.append_nil, List.map_cons, List.map_nil, List.set_cons_zero, List.set_cons_succ, List.getElem?_append_right, List.getD_cons_zero, Nat.le_refl, Nat.zero_add, Nat.add_zero, Nat.sub_self, Nat.mul_one, Nat.one_mul, Nat.le_add_left, implies_true, false_imp_iff, forall_const, ↓reduceIte, Nat.reduceAdd, Nat.reduceSub, Nat.reduceMul, Nat.reduceDiv, Nat.reduceMod, Nat.reduceEqDiff, Nat.reduceLT, Nat.reduceLeDiff, Nat.reducePow, Int.reduceAdd, Int.reduceSub, Int.reduceMul, Int.reduceNeg, Int.reduceLT, Int.reduceLE, Int.reduceEq, Int.reduceToNat, Int.reducePow, Int.reduceTDiv, Int.reduceTMod, decide_true, decide_false, *]
    <;> first | rfl | skip) : p := e ▸ h
/-- At the end. -/
theorem fin_ {H : Heap} {r r' : V} (h : frz Tryz.prog H 6 r' = r := by simp (disch := omega) only [decide_true, decide_false, c0, cn, Nat.zero_mul, Nat.mul_one, Nat.one_mul, take_nums, take_ints, take_bls, List.take_replicate, List.replicate_zero, List.take_nil, List.drop_nil, Nat.min_self, List.take_of_length_le, frz, Heap.at, List.getElem?_cons_zero, List.getElem?_cons_succ, true_and, and_self, and_true, if_true, ite_true, Option.elim_some, T, List.map_cons, List.map_nil, frz_nums, frz_ints, frz_bls, List.drop_zero]) : ∃ n, frz Tryz.prog H n r' = r := ⟨6, h⟩
end Go.Proofs.E
end
/- The reference: rows of bits. -/
section
set_option linter.unusedVariables false
set_option linter.unusedSimpArgs false
set_option linter.unusedSectionVars false
namespace Go.Proofs.E
open Go Go.Proofs.MV
set_option linter.unusedVariables false
set_option maxRecDepth 10000
variable {L : Nat → (Nat → Option Obj) → Prop}
theorem r02_words (n : Nat) (hn : n < 1000000000) : Pure Tryz.prog L 57 [.i .i64 n] (.i .i64 ((n + 63) / 64 : Nat)) := by
  refine pure_of_W Tryz.func57 rfl rfl (by kernel_rfl) [] closed (.i _ _) fun A hL => ?_
  unfold Tryz.f57
  refine go ?_
  exact fin_
theorem r02_at (l : List Bool) (hl : l.length ≤ 1048576) (i : Nat) (hi : i < l.length) : Pure Tryz.prog L 34 [bitsV l, .i .i64 i] (.b (bt l i)) := by
  refine pure_of_W Tryz.func34 rfl rfl (by kernel_rfl) [] (by unfold bitsV; exact closed) (.b _) fun A hL => ?_
  have hw := wn_length l (wc l)
  have hc : wc l = (l.length + 63) / 64 := rfl
  have hg := wn_getD l (wc l) (i / 64) (by omega)
  unfold bitsV Tryz.f34
  refine go ?_
  rw [hg, bit_nat]
  exact fin_
theorem pow64 {i : Nat} (h : i < 64) : 2 ^ i < 18446744073709551616 := Nat.pow_lt_pow_right (by decide) h
theorem mask_or (i : Nat) : (2 ^ i - 1 ||| 2 ^ i) = 2 ^ (i + 1) - 1 := by
  apply Nat.eq_of_testBit_eq
  intro j
  rw [Nat.testBit_or, Nat.testBit_two_pow_sub_one, Nat.testBit_two_pow, Nat.testBit_two_pow_sub_one]
  by_cases h : j < i
  · simp [h, Nat.lt_succ_of_lt h]
  · by_cases e : i = j
    · subst e; simp
    · simp [h, e]; omega
theorem r01_mask (n : Nat) (hn : n ≤ 64) : Pure Tryz.prog L 58 [.i .i64 n] (.i .u64 (2 ^ n - 1 : Nat)) := by
  refine pure_of_W Tryz.func58 rfl rfl (by kernel_rfl) [] closed (.i _ _) fun A hL => ?_
  unfold Tryz.f58
  refine go ?_
  refine loop_ (fun i : Nat => ⟨[(0, .i .i64 n), (3, .i .u64 (2 ^ i - 1 : Nat)), (4, .i .i64 i)], []⟩) (fun i => i ≤ n) (fun i => 65 - i) 0 (Nat.zero_le _) (le_slots (Nat.zero_le _) (go trivial)) fun i hi => go ?_
  refine ⟨fun h1 => go ?_, fun h1 => go ?_⟩
  · refine ⟨fun h2 => go ?_, fun h2 => go ?_⟩
    · have h3 := pow64 h1
      exact ⟨i + 1, by omega, by omega, le_slots (Nat.zero_le _) (go (mask_or i).symm)⟩
    · obtain rfl : i = n := by omega
      exact fin_
  · obtain rfl : i = n := by omega
    exact fin_
theorem mask_out {x k : Nat} (hk : k ≤ 64) (h : x < 2 ^ k) : bits .andNot .u64 (x : Int) ((2 ^ k - 1 : Nat) : Int) = 0 := andNot_zero x k hk h
theorem r02_check (l : List Bool) (hl : l.length ≤ 1048576) : Pure Tryz.prog L 33 [bitsV l] (.b true) := by
  refine pure_of_W Tryz.func33 rfl rfl (by kernel_rfl) [] (by unfold bitsV; exact closed) (.b _) fun A hL => ?_
  have hw := wn_length l (wc l)
  have hc : wc l = (l.length + 63) / 64 := rfl
  unfold bitsV Tryz.f33
  refine go ?_
  refine regD 17 (by kernel_rfl) (by kernel_rfl) (go ?_)
  refine ⟨_, (r02_words l.length (by omega)).does hL ⟨rfl, rfl⟩, ?_⟩
  refine go ?_
  refine regD 21 (by kernel_rfl) (by kernel_rfl) (go ?_)
  refine ⟨fun h => go ?_, fun h => go ?_⟩
  · exact fin_
  · refine ⟨_, (r01_mask (l.length % 64) (by omega)).does hL ⟨rfl, rfl⟩, ?_⟩
    refine go ?_
    rw [wn_getD l (wc l) (wc l - 1) (by omega), mask_out (by omega) (hc ▸ wN_last l (by omega))]
    exact fin_
theorem r02_ones (l : List Bool) (hl : l.length ≤ 1048576) (n : Nat) (hn : n < 1000000000) : Pure Tryz.prog L 11 [bitsV l, .i .i64 n] (.i .i64 (MR.cnt l (min n l.length) : Nat)) := by
  refine pure_of_W Tryz.func11 rfl rfl (by kernel_rfl) [] (by unfold bitsV; exact closed) closed fun A hL => ?_
  have hb : bitsV l = .agg [.i .i64 (l.length : Nat), .sl false (wc l) (nums .u64 (wn l (wc l)))] := rfl
  have hat := fun i (h : i < l.length) => (r02_at (L := L) l hl i h)
  have hck := r02_check (L := L) l hl
  unfold bitsV at *
  unfold Tryz.f11
  refine go ?_
  refine loop_ (fun i : Nat => ⟨[(1, .i .i64 n), (2, .p 0 0 0), (5, .i .i64 (MR.cnt l i : Nat)), (6, .i .i64 i)], _⟩) (fun i => i ≤ n ∧ i ≤ l.length) (fun i => n - i) 0 ⟨Nat.zero_le _, Nat.zero_le _⟩ (le_slots (Nat.zero_le _) (go ?_)) fun i ⟨hi, hi2⟩ => go ?_
  · trivial
  refine ⟨fun h1 => go ?_, fun h1 => go ?_⟩
  · refine ⟨fun h2 => go ?_, fun h2 => go ?_⟩
    · refine hck.does hL (go ?_)
      refine (hat i h2).does hL (go ?_)
      refine onCb (fun hx => go ?_) (fun hx => go ?_)
      · have hcl := MR.cnt_le l i
        refine go ?_
        exact ⟨i + 1, by omega, ⟨by omega, by omega⟩, le_slots (Nat.zero_le _) (go (cnt_t hx))⟩
      · exact ⟨i + 1, by omega, ⟨by omega, by omega⟩, le_slots (Nat.zero_le _) (go (cnt_f hx))⟩
    · obtain rfl : i = l.length := by omega
      rw [Nat.min_eq_right (by omega)]
      exact fin_
  · obtain rfl : i = n := by omega
    exact fin_
theorem r02_put {A : Amb} (l l' : List Bool) (m i : Nat) (x : Bool) (hi : i < 64 * m) (hm : m < 1000000) (h : ∀ j, bt l' j = if j = i then x else bt l j) {H : Heap} {b g : Nat} {K : V → Heap → Prop} (hat : H[b]? = some ⟨95, g, nums .u64 (wn l m), true⟩) (hK : K (.tup []) (H.set b ⟨95, g, nums .u64 (wn l' m), true⟩)) :
    Does Tryz.prog A 62 [.o b g 0 m, .i .i64 i, .b x] H K := by
  refine does_of_W Tryz.func62 rfl rfl (by kernel_rfl) [] ?_
  have hw := wn_length l m
  have hs := fun k' => getSet (k' := k') hat
  have hp := pow64 (Nat.mod_lt i (show 0 < 64 by decide))
  have hg := wn_getD l m (i / 64) (by omega)
  have hn := wN_lt l (i / 64)
  unfold Tryz.f62
  refine gox ?_
  have hna := Nat.and_le_left (n := wN l (i / 64)) (m := 18446744073709551616 - (2 ^ (i % 64) + 1))
  refine onCb (fun hx => gox ?_) (fun hx => gox ?_)
  · refine Eq.mp (congrArg (fun z => K _ (H.set b ⟨_, g, nums .u64 z, true⟩)) ?_) hK
    refine (set_wn fun j hj => ?_).symm
    rw [wN_or (l := l) (l' := l') (i := i) (fun j => by rw [h, hx]; by_cases e : j = i <;> simp [e]) j, or_off hn (Nat.mod_lt _ (by decide))]
  · refine Eq.mp (congrArg (fun z => K _ (H.set b ⟨_, g, nums .u64 z, true⟩)) ?_) hK
    exact (set_wn fun j hj => wN_off (fun j => by rw [h, hx]; by_cases e : j = i <;> simp [e]) j).symm
theorem r02_new_own {A : Amb} (hL : L A.n A.c) (n : Nat) (hn : n ≤ 1048576) {H : Heap} {K : V → Heap → Prop} (hK : K (.tup [.agg [.i .i64 n, .o (H.length + 1) 0 0 ((n + 63) / 64)], .i .i64 0]) (H ++ [⟨33, 0, [.i .i64 n, .o (H.length + 1) 0 0 ((n + 63) / 64)], true⟩, ⟨95, 0, nums .u64 (List.replicate ((n + 63) / 64) 0), true⟩])) :
    Does Tryz.prog A 61 [.i .i64 n] H K := by
  refine does_of_W Tryz.func61 rfl rfl (by kernel_rfl) [] ?_
  unfold Tryz.f61
  refine go ?_
  refine (r02_words n (by omega)).does hL ?_
  refine go ?_
  exact hK
theorem r02_from (l : List Bool) (hl : l.length ≤ 1048576) : Pure Tryz.prog L 38 [.sl false l.length (bls l)] (.tup [bitsV l, .i .i64 0]) := by
  refine pure_of_W Tryz.func38 rfl rfl (by kernel_rfl) [] closed (by unfold bitsV; exact closed) fun A hL => ?_
  have hc : wc l = (l.length + 63) / 64 := rfl
  unfold bitsV Tryz.f38
  refine go ?_
  refine r02_new_own hL l.length hl (go ?_)
  rw [← hc, ← wn_zero l (wc l)]
  refine loop_ (fun i : Nat => ⟨[(0, .sl false l.length (bls l)), (2, .p 0 0 0), (4, .p 3 0 0), (5, .i .i64 0), (6, .i .i64 i)], [⟨33, 0, [.i .i64 0, .ns], true⟩, ⟨33, 0, [.i .i64 l.length, .o 2 0 0 (wc l)], true⟩, ⟨95, 0, nums .u64 (wn (uptoB l i) (wc l)), true⟩, ⟨33, 0, [.i .i64 l.length, .o 2 0 0 (wc l)], true⟩]⟩) (fun i => i ≤ l.length) (fun i => l.length - i) 0 (Nat.zero_le _) (le_slots (Nat.zero_le _) (go ?_)) fun i hi => go ?_
  · trivial
  refine ⟨fun h1 => go ?_, fun h1 => go ?_⟩
  · refine regD 7 (by kernel_rfl) (by kernel_rfl) (go ?_)
    refine r02_put (uptoB l i) (uptoB l (i + 1)) (wc l) i _ (by omega) (by omega) (upto_next l i) rfl (go ?_)
    exact ⟨i + 1, by omega, by omega, le_slots (Nat.zero_le _) (go trivial)⟩
  · obtain rfl : i = l.length := by omega
    have hw := wn_length l (wc l)
    rw [uptoB_all]
    exact fin_
end Go.Proofs.E
end
/- The program: words and rows of bits. -/
section
set_option linter.unusedVariables false
set_option linter.unusedSimpArgs false
set_option linter.unusedSectionVars false
namespace Go.Proofs.E
open Go Go.Proofs.MV
set_option linter.unusedVariables false
set_option maxRecDepth 10000
variable {L : Nat → (Nat → Option Obj) → Prop}
theorem mask_nat (n : Nat) (h : 0 < n) (h2 : n ≤ 64) : 18446744073709551615 / 2 ^ (64 - n) = 2 ^ n - 1 := by
  have := mask_num n h h2
  have e : ((18446744073709551615 / 2 ^ (64 - n) : Nat) : Int) = ((2 ^ n - 1 : Nat) : Int) := by rw [← this, Int.natCast_ediv]; simp
  exact Int.ofNat.inj e
theorem b_mask (n : Nat) (hn : n ≤ 64) : Pure Tryz.prog L 99 [.i .i64 n] (.i .u64 (2 ^ n - 1 : Nat)) := by
  refine pure_of_W Tryz.func99 rfl rfl (by kernel_rfl) [] closed (.i _ _) fun A hL => ?_
  unfold Tryz.f99
  by_cases h0 : n = 0
  · subst h0
    refine go ?_
    exact fin_
  by_cases h64 : n = 64
  · subst h64
    refine go ?_
    exact fin_
  have h1 : 0 < 64 - n := by omega
  refine go ?_
  rw [mask_nat n (by omega) hn]
  exact fin_
theorem b_ones64 (x : Nat) (hx : x < 2 ^ 64) : Pure Tryz.prog L 141 [.i .u64 x] (.i .i64 (MP.pop 64 x : Nat)) := by
  refine pure_of_W Tryz.func141 rfl rfl (by kernel_rfl) [] closed (.i _ _) fun A hL => ?_
  have m1 : MP.mk 85 8 = 6148914691236517205 := by decide
  have m2 : MP.mk 51 8 = 3689348814741910323 := by decide
  have m3 : MP.mk 15 8 = 1085102592571150095 := by decide
  have e1 := MP.step1 8 x; have e2 := MP.step2 8 x; have e3 := MP.step3 8 x
  have hl := MP.L_le 8 x
  rw [show MP.mk 1 8 = 72340172838076673 by decide] at hl
  rw [m1] at e1; rw [m2] at e2; rw [m3] at e3
  generalize MP.L MP.t1 8 x = y1 at *
  generalize MP.L (fun b => MP.t2 (MP.t1 b)) 8 x = y2 at *
  have on := MP.ones x _ _ rfl rfl
  generalize hy3 : MP.L (MP.pop 8) 8 x = y3 at *
  have c1 : (x / 2 &&& 6148914691236517205) ≤ 6148914691236517205 := Nat.and_le_right
  have c2 : (x &&& 6148914691236517205) ≤ 6148914691236517205 := Nat.and_le_right
  have c3 : (y1 / 4 &&& 3689348814741910323) ≤ 3689348814741910323 := Nat.and_le_right
  have c4 : (y1 &&& 3689348814741910323) ≤ 3689348814741910323 := Nat.and_le_right
  have b1 : y1 < 2 ^ 64 := by omega
  have b2 : y2 ≤ 7378697629483820646 := by omega
  have r127 : ∀ z : Nat, z &&& 127 = z % 128 := fun z => Nat.and_two_pow_sub_one_eq_mod z 7
  clear hy3 m1 m2 m3
  unfold Tryz.f141
  refine gox ?_
  exact fin_
theorem b_pop (x : Nat) (hx : x < 2 ^ 64) : Pure Tryz.prog L 88 [.i .u64 x] (.i .i64 (MP.pop 64 x : Nat)) := by
  refine pure_of_W Tryz.func88 rfl rfl (by kernel_rfl) [] closed (.i _ _) fun A hL => ?_
  unfold Tryz.f88
  refine go ?_
  refine (b_ones64 x hx).does hL (go ?_)
  exact fin_
theorem b_words (n : Nat) (hn : n < 1000000000) : Pure Tryz.prog L 86 [.i .i64 n] (.i .i64 ((n + 63) / 64 : Nat)) := by
  refine pure_of_W Tryz.func86 rfl rfl (by kernel_rfl) [] closed (.i _ _) fun A hL => ?_
  unfold Tryz.f86
  refine go ?_
  exact fin_
theorem b_new_own {A : Amb} (hL : L A.n A.c) (n : Nat) (hn : n ≤ 1048576) {H : Heap} {K : V → Heap → Prop} (hK : ∀ k, K (.tup [.agg [.i .i64 n, .o (H.length + 1) 0 0 ((n + 63) / 64)], .i .i64 0]) (H ++ [k, ⟨95, 0, nums .u64 (List.replicate ((n + 63) / 64) 0), true⟩])) :
    Does Tryz.prog A 48 [.i .i64 n] H K := by
  refine does_of_W Tryz.func48 rfl rfl (by kernel_rfl) [] ?_
  unfold Tryz.f48
  refine go ?_
  refine (b_words n (by omega)).does hL ?_
  refine go ?_
  exact hK _
theorem b_check (l : List Bool) (hl : l.length ≤ 1048576) : Pure Tryz.prog L 87 [bitsV l] (.b true) := by
  refine pure_of_W Tryz.func87 rfl rfl (by kernel_rfl) [] (by unfold bitsV; exact closed) (.b _) fun A hL => ?_
  have hw := wn_length l (wc l)
  have hc : (l.length + 63) / 64 = wc l := rfl
  unfold bitsV Tryz.f87
  refine go ?_
  refine regD 17 (by kernel_rfl) (by kernel_rfl) (go ?_)
  refine ⟨_, (b_words l.length (by omega)).does hL ⟨rfl, rfl⟩, go ?_⟩
  refine regD 17 (by kernel_rfl) (by kernel_rfl) (go ?_)
  refine ⟨fun h => go ?_, fun h => go ?_⟩
  · exact fin_
  · refine ⟨_, (b_mask (l.length % 64) (by omega)).does hL ⟨rfl, rfl⟩, go ?_⟩
    rw [wn_getD l (wc l) (wc l - 1) (by omega), mask_out (by omega) (by rw [← hc]; exact wN_last l (by omega))]
    exact fin_
theorem pop_low (n x : Nat) (hn : n ≤ 64) : MP.pop 64 (x % 2 ^ n) = MP.pop n x := by
  have := MP.pop_add n (64 - n) (x % 2 ^ n)
  rw [show n + (64 - n) = 64 by omega, MP.pop_mod, Nat.div_eq_of_lt (Nat.mod_lt _ (Nat.two_pow_pos n))] at this
  rw [this]
  have z : ∀ i, MP.pop i 0 = 0 := fun i => by induction i with
    | zero => rfl
    | succ i ih => rw [MP.pop_succ, ih]; simp
  rw [z]; omega
theorem b_rank (x n : Nat) (hx : x < 2 ^ 64) (hn : n ≤ 64) : Pure Tryz.prog L 148 [.i .u64 x, .i .i64 n] (.i .i64 (MP.pop n x : Nat)) := by
  refine pure_of_W Tryz.func148 rfl rfl (by kernel_rfl) [] closed (.i _ _) fun A hL => ?_
  have hm : 2 ^ n - 1 < 2 ^ 64 := Nat.lt_of_lt_of_le (Nat.sub_lt (Nat.two_pow_pos n) (by decide)) (Nat.pow_le_pow_right (by decide) hn)
  have ha : (x &&& (2 ^ n - 1)) = x % 2 ^ n := Nat.and_two_pow_sub_one_eq_mod x n
  unfold Tryz.f148
  refine go ?_
  refine (b_mask n hn).does hL (gox ?_)
  refine (b_pop (x % 2 ^ n) (Nat.lt_of_le_of_lt (Nat.mod_le _ _) hx)).does hL (go ?_)
  rw [pop_low n x hn]
  exact fin_
theorem b_get (l : List Bool) (hl : l.length ≤ 1048576) (i : Nat) (hi : i < l.length) : Pure Tryz.prog L 83 [bitsV l, .i .i64 i] (.tup [.b (bt l i), .i .i64 0]) := by
  refine pure_of_W Tryz.func83 rfl rfl (by kernel_rfl) [] (by unfold bitsV; exact closed) closed fun A hL => ?_
  have hw := wn_length l (wc l)
  have hc : (l.length + 63) / 64 = wc l := rfl
  have hg := wn_getD l (wc l) (i / 64) (by omega)
  have hb := bit_lt l i
  have hck := b_check (L := L) l hl
  unfold bitsV at *
  unfold Tryz.f83
  refine go ?_
  refine hck.does hL (gox ?_)
  rw [bit_nat]
  exact fin_
theorem b_from (l : List Bool) (hl : l.length ≤ 1048576) : Pure Tryz.prog L 28 [.sl false l.length (bls l)] (.tup [bitsV l, .i .i64 0]) := by
  refine pure_of_W Tryz.func28 rfl rfl (by kernel_rfl) [] closed (by unfold bitsV; exact closed) fun A hL => ?_
  have hc : (l.length + 63) / 64 = wc l := rfl
  unfold bitsV Tryz.f28
  refine go ?_
  refine b_new_own hL l.length hl fun k => go ?_
  rw [hc, ← wn_zero l (wc l)]
  refine loop_ (fun i : Nat => ⟨[(0, .sl false l.length (bls l)), (2, .p 0 0 0), (4, .p 3 0 0), (5, .i .i64 0), (18, .sl false l.length (bls l)), (19, .i .i64 l.length), (20, .i .i64 i)], [⟨33, 0, [.i .i64 0, .ns], true⟩, k, ⟨95, 0, nums .u64 (wn (uptoB l i) (wc l)), true⟩, ⟨33, 0, [.i .i64 l.length, .o 2 0 0 (wc l)], true⟩]⟩) (fun i => i ≤ l.length) (fun i => l.length - i) 0 (Nat.zero_le _) (le_slots (Nat.zero_le _) (go ?_)) fun i hi => go ?_
  · trivial
  refine ⟨fun h1 => go ?_, fun h1 => go ?_⟩
  · refine onCb (fun hx => go ?_) (fun hx => go ?_)
    · have hw := wn_length (uptoB l i) (wc l)
      have hg := wn_getD (uptoB l i) (wc l) (i / 64) (by omega)
      have hn := wN_lt (uptoB l i) (i / 64)
      have hp := pow64 (Nat.mod_lt i (show 0 < 64 by decide))
      refine regD 11 (by kernel_rfl) (by kernel_rfl) (gox ?_)
      have hb : ∀ j, bt (uptoB l (i + 1)) j = (decide (j = i) || bt (uptoB l i) j) := fun j => by rw [upto_next]; by_cases e : j = i <;> simp [e]; exact hx
      rw [set_wn fun j hj => wN_or hb j]
      exact ⟨i + 1, by omega, by omega, le_slots (Nat.zero_le _) (go trivial)⟩
    · have hb : ∀ j, bt (uptoB l (i + 1)) j = bt (uptoB l i) j := fun j => by
        rw [upto_next]
        split
        · rename_i e; subst e
          rw [uptoB_bt]; simp; exact hx
        · rfl
      have he : wn (uptoB l (i + 1)) (wc l) = wn (uptoB l i) (wc l) := wn_ext fun j _ => by unfold wN; exact congrArg (fun f => wd f 64) (funext fun x => hb _)
      exact ⟨i + 1, by omega, by omega, le_slots' (Nat.zero_le _) (by rw [he]) (go trivial)⟩
  · obtain rfl : i = l.length := by omega
    have hw := wn_length l (wc l)
    rw [uptoB_all]
    exact fin_
theorem b_ones (l : List Bool) (hl : l.length ≤ 1048576) (n : Nat) (hn : n ≤ l.length) : Pure Tryz.prog L 95 [bitsV l, .i .i64 n] (.i .i64 (MR.cnt l n : Nat)) := by
  refine pure_of_W Tryz.func95 rfl rfl (by kernel_rfl) [] (by unfold bitsV; exact closed) closed fun A hL => ?_
  have hw := wn_length l (wc l)
  have hc : (l.length + 63) / 64 = wc l := rfl
  have hck := b_check (L := L) l hl
  unfold bitsV at *
  unfold Tryz.f95
  refine go ?_
  refine hck.does hL (go ?_)
  refine loop_ (fun i : Nat => ⟨[(1, .i .i64 n), (2, .p 0 0 0), (5, .i .i64 (MR.cnt l (64 * i) : Nat)), (20, .sl false (n / 64) (nums .u64 ((wn l (wc l)).take (n / 64)))), (21, .i .i64 (n / 64 : Nat)), (22, .i .i64 i)], _⟩) (fun i => i ≤ n / 64) (fun i => n / 64 - i) 0 (Nat.zero_le _) (le_slots (Nat.zero_le _) (go ?_)) fun i hi => go ?_
  · trivial
  refine ⟨fun h1 => go ?_, fun h1 => go ?_⟩
  · rw [take_getD h1, wn_getD l (wc l) i (by omega)]
    have hle := MR.cnt_le l (64 * i)
    have hpl := MB.pop_le (wN l i) 64
    refine (b_pop (wN l i) (wN_lt l i)).does hL (go ?_)
    exact ⟨i + 1, by omega, by omega, le_slots (Nat.zero_le _) (go (cnt_words l i))⟩
  · have hle := MR.cnt_le l (64 * i)
    obtain rfl : i = n / 64 := by omega
    refine ⟨fun h2 => go ?_, fun h2 => go ?_⟩
    · have hpl := MB.pop_le (wN l (n / 64)) (n % 64)
      rw [wn_getD l (wc l) (n / 64) (by omega)]
      refine (b_rank (wN l (n / 64)) (n % 64) (wN_lt _ _) (by omega)).does hL (go ?_)
      rw [← MR.cnt_word l (n / 64) (n % 64) (by omega), Nat.div_add_mod]
      exact fin_
    · rw [show 64 * (n / 64) = n by omega]
      exact fin_
end Go.Proofs.E
end
/- The program: rows of bits that grow; slices of them. -/
section
set_option linter.unusedVariables false
set_option linter.unusedSimpArgs false
set_option linter.unusedSectionVars false
namespace Go.Proofs.E
open Go Go.Proofs.MV
set_option linter.unusedVariables false
set_option maxRecDepth 10000
variable {L : Nat → (Nat → Option Obj) → Prop}
theorem b_own {A : Amb} (hL : L A.n A.c) (l : List Bool) (n m : Nat) (hm : (n + 63) / 64 = m) (hl : l.length ≤ n) (hn : n ≤ 1048576) {H : Heap} {K : V → Heap → Prop} (hK : ∀ k0 k1 k3, K (.agg [.i .i64 n, .o (H.length + 2) 0 0 m]) (H ++ [k0, k1, ⟨95, 0, nums .u64 (wn l m), true⟩, k3])) :
    Does Tryz.prog A 143 [bitsV l, .i .i64 n] H K := by
  refine does_of_W Tryz.func143 rfl rfl (by kernel_rfl) [] ?_
  have hw := wn_length l (wc l)
  have hc : (l.length + 63) / 64 = wc l := rfl
  unfold bitsV Tryz.f143
  refine go ?_
  refine (b_words n (by omega)).does hL (gox ?_)
  have := hK ⟨33, 0, [.i .i64 l.length, .sl false (wc l) (nums .u64 (wn l (wc l)))], true⟩ ⟨33, 0, [.i .i64 n, .o (H.length + 2) 0 0 m], true⟩ ⟨33, 0, [.i .i64 n, .o (H.length + 2) 0 0 m], true⟩
  rw [← wn_pad l m (by omega)] at this
  exact this
theorem b_fill {A : Amb} (l : List Bool) (x k m N : Nat) (hx : x < 2 ^ k) (hk : k ≤ 64) (hm : l.length + k ≤ 64 * m) (hm2 : m < 1000000) {H : Heap} {b g : Nat} {K : V → Heap → Prop} (hat : H[b]? = some ⟨95, g, nums .u64 (wn l m), true⟩)
    (hK : ∀ k0, K (.tup []) (H.set b ⟨95, g, nums .u64 (wn (l ++ bitsOf x k) m), true⟩ ++ [k0])) :
    Does Tryz.prog A 144 [.agg [.i .i64 N, .o b g 0 m], .i .i64 l.length, .i .u64 x] H K := by
  refine does_of_W Tryz.func144 rfl rfl (by kernel_rfl) [] ?_
  have hw := wn_length l m
  have hs := fun k' => getSet (k' := k') hat
  have hb : b < H.length := (List.getElem?_eq_some_iff.1 hat).1
  have hn := wN_lt l (l.length / 64)
  have hn2 := wN_lt l (l.length / 64 + 1)
  have h1 : x * 2 ^ (l.length % 64) % 2 ^ 64 < 18446744073709551616 := Nat.mod_lt _ (by decide)
  have h2 : x / 2 ^ (64 - l.length % 64) ≤ x := Nat.div_le_self _ _
  have h64 : x < 2 ^ 64 := Nat.lt_of_lt_of_le hx (Nat.pow_le_pow_right (by decide) hk)
  unfold Tryz.f144
  refine gox ?_
  refine ⟨fun h => gox ?_, fun h => gox ?_⟩
  · have hg := wn_getD l m (l.length / 64) h
    refine regD 10 (by kernel_rfl) (by kernel_rfl) (gox ?_)
    refine ⟨fun h3 => gox ?_, fun h3 => gox ?_⟩
    · refine ⟨fun h4 => gox ?_, fun h4 => gox ?_⟩
      · have hg3 := fun X => (getD_set_ne (l := wn l m) (i := l.length / 64) (j := l.length / 64 + 1) (x := X) (d := 0) (by omega)).trans (wn_getD l m (l.length / 64 + 1) h4)
        refine regD 12 (by kernel_rfl) (by kernel_rfl) (gox ?_)
        rw [fill_two l x k m hx hk h3]
        exact hK _
      · rw [fill_one l x k m hx hk (by omega)]
        exact hK _
    · rw [fill_one l x k m hx hk (by omega)]
      exact hK _
  · have := hK ⟨33, 0, [.i .i64 N, .o b g 0 m], true⟩
    rw [wn_fill_none l x k m hx hk (by omega), setSelf hat] at this
    exact this
theorem b_slice (l : List Bool) (hl : l.length ≤ 1048576) (p n : Nat) (hp : p + n ≤ l.length) (h0 : 0 < n) (hn : n ≤ 64) : Pure Tryz.prog L 89 [bitsV l, .i .i64 p, .i .i64 n] (.tup [.i .u64 (piece l p n : Nat), .i .i64 0]) := by
  refine pure_of_W Tryz.func89 rfl rfl (by kernel_rfl) [] (by unfold bitsV; exact closed) closed fun A hL => ?_
  have hw := wn_length l (wc l)
  have hc : (l.length + 63) / 64 = wc l := rfl
  have hg := wn_getD l (wc l) (p / 64) (by omega)
  have hck := b_check (L := L) l hl
  unfold bitsV at *
  unfold Tryz.f89
  refine go ?_
  refine hck.does hL (gox ?_)
  have hlt := bit_lt l p
  have hwl := wN_lt l (p / 64 + 1)
  have hmk : 2 ^ n - 1 < 18446744073709551616 := Nat.lt_of_lt_of_le (Nat.sub_lt (Nat.two_pow_pos n) (by decide)) (show 2 ^ n ≤ 2 ^ 64 from Nat.pow_le_pow_right (by decide) hn)
  have ha : ∀ y, (y &&& (2 ^ n - 1)) = y % 2 ^ n := fun y => Nat.and_two_pow_sub_one_eq_mod y n
  refine ⟨fun h => gox ?_, fun h => gox ?_⟩
  · have hg2 := wn_getD l (wc l) (p / 64 + 1) (by omega)
    have ho : (wN l (p / 64) / 2 ^ (p % 64) ||| wN l (p / 64 + 1) * 2 ^ (64 - p % 64) % 18446744073709551616) < 2 ^ 64 := Nat.or_lt_two_pow hlt (Nat.mod_lt _ (by decide))
    refine (b_mask n hn).does hL (gox ?_)
    rw [show (18446744073709551616 : Nat) = 2 ^ 64 from rfl, part_two l p n h hn]
    exact fin_
  · refine (b_mask n hn).does hL (gox ?_)
    rw [part_one l p n (by omega)]
    exact fin_
theorem b_append (l : List Bool) (x k : Nat) (hx : x < 2 ^ 64) (hk : k ≤ 64) (hlk : l.length + k ≤ 1048576) : Pure Tryz.prog L 92 [bitsV l, .i .u64 x, .i .i64 k] (.tup [bitsV (l ++ bitsOf x k), .i .i64 0]) := by
  refine pure_of_W Tryz.func92 rfl rfl (by kernel_rfl) [] (by unfold bitsV; exact closed) (by unfold bitsV; exact closed) fun A hL => ?_
  have hc : (l.length + 63) / 64 = wc l := rfl
  have hck := b_check (L := L) l (by omega)
  obtain ⟨m, hm⟩ : ∃ m, (l.length + k + 63) / 64 = m := ⟨_, rfl⟩
  have hlen : (l ++ bitsOf x k).length = l.length + k := by rw [List.length_append, bitsOf_length]
  have hwc : wc (l ++ bitsOf x k) = m := by unfold wc; rw [hlen, hm]
  have how := fun H K => b_own (L := L) hL l (l.length + k) m hm (by omega) hlk (H := H) (K := K)
  have hmk : 2 ^ k - 1 < 18446744073709551616 := Nat.lt_of_lt_of_le (Nat.sub_lt (Nat.two_pow_pos k) (by decide)) (show 2 ^ k ≤ 2 ^ 64 from Nat.pow_le_pow_right (by decide) hk)
  have ha : (x &&& (2 ^ k - 1)) = x % 2 ^ k := Nat.and_two_pow_sub_one_eq_mod x k
  unfold bitsV at *
  rw [hlen, hwc]
  clear hlen hwc
  unfold Tryz.f92
  refine go ?_
  refine hck.does hL (gox ?_)
  refine how _ _ fun k0 k1 k3 => gox ?_
  refine regD 7 (by kernel_rfl) (by kernel_rfl) (go ?_)
  refine ⟨_, (b_mask k hk).does hL ⟨rfl, rfl⟩, gox ?_⟩
  refine b_fill l (x % 2 ^ k) k m _ (Nat.mod_lt _ (Nat.two_pow_pos k)) hk (by omega) (by omega) rfl fun k4 => gox ?_
  rw [bitsOf_mod]
  have hw := wn_length (l ++ bitsOf x k) m
  exact fin_
end Go.Proofs.E
end
