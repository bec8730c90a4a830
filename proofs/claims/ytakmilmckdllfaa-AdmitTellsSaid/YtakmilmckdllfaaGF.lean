/-
Closed facts on the types of the program: sizes, places of fields, zero values; each is seen by computing. Printed by inst.py --facts (a program of this repo).
-/
import Derived.Test.YtakmilmckdllfaaG23
import Derived.Test.YtakmilmckdllfaaProg
import Derived.KernelRfl
set_option linter.unusedVariables false
namespace Go.Proofs.Ytakmilmckdllfaa.G
theorem mix : Try.prog.follows .mixedOrders = true := by kernel_rfl
@[go_sem] theorem t1_size : sizeT Try.prog 1 = some 1 := by kernel_rfl
@[go_sem] theorem t1_agg : aggT Try.prog 1 = some false := by kernel_rfl
@[go_sem] theorem t2_size : sizeT Try.prog 2 = some 1 := by kernel_rfl
@[go_sem] theorem t2_bytes : bytesT Try.prog 2 = some 8 := by kernel_rfl
@[go_sem] theorem t2_agg : aggT Try.prog 2 = some false := by kernel_rfl
@[go_sem] theorem t2_u : Try.prog.underlying 2 = some (.int .i64) := by kernel_rfl
@[go_sem] theorem t2_zero : zeroT Try.prog 2 = some [.atom (.int .i64 0)] := by kernel_rfl
@[go_sem] theorem t2_zsize : zsizeT Try.prog 2 = some 1 := by kernel_rfl
@[go_sem] theorem t3_size : sizeT Try.prog 3 = some 1 := by kernel_rfl
@[go_sem] theorem t3_bytes : bytesT Try.prog 3 = some 8 := by kernel_rfl
@[go_sem] theorem t3_agg : aggT Try.prog 3 = some false := by kernel_rfl
@[go_sem] theorem t3_u : Try.prog.underlying 3 = some (.int .i64) := by kernel_rfl
@[go_sem] theorem t3_zero : zeroT Try.prog 3 = some [.atom (.int .i64 0)] := by kernel_rfl
@[go_sem] theorem t3_zsize : zsizeT Try.prog 3 = some 1 := by kernel_rfl
@[go_sem] theorem t4_size : sizeT Try.prog 4 = some 1 := by kernel_rfl
@[go_sem] theorem t4_bytes : bytesT Try.prog 4 = some 1 := by kernel_rfl
@[go_sem] theorem t4_agg : aggT Try.prog 4 = some false := by kernel_rfl
@[go_sem] theorem t4_u : Try.prog.underlying 4 = some .bool := by kernel_rfl
@[go_sem] theorem t4_zero : zeroT Try.prog 4 = some [.atom (.bool false)] := by kernel_rfl
@[go_sem] theorem t4_zsize : zsizeT Try.prog 4 = some 1 := by kernel_rfl
@[go_sem] theorem t5_size : sizeT Try.prog 5 = some 1 := by kernel_rfl
@[go_sem] theorem t5_bytes : bytesT Try.prog 5 = some 1 := by kernel_rfl
@[go_sem] theorem t5_agg : aggT Try.prog 5 = some false := by kernel_rfl
@[go_sem] theorem t5_u : Try.prog.underlying 5 = some (.int .u8) := by kernel_rfl
@[go_sem] theorem t5_zero : zeroT Try.prog 5 = some [.atom (.int .u8 0)] := by kernel_rfl
@[go_sem] theorem t5_zsize : zsizeT Try.prog 5 = some 1 := by kernel_rfl
@[go_sem] theorem t9_size : sizeT Try.prog 9 = some 1 := by kernel_rfl
@[go_sem] theorem t9_bytes : bytesT Try.prog 9 = some 16 := by kernel_rfl
@[go_sem] theorem t9_agg : aggT Try.prog 9 = some false := by kernel_rfl
@[go_sem] theorem t9_u : Try.prog.underlying 9 = some .string := by kernel_rfl
@[go_sem] theorem t20_size : sizeT Try.prog 20 = some 1 := by kernel_rfl
@[go_sem] theorem t20_bytes : bytesT Try.prog 20 = some 16 := by kernel_rfl
@[go_sem] theorem t20_agg : aggT Try.prog 20 = some false := by kernel_rfl
@[go_sem] theorem t20_zero : zeroT Try.prog 20 = some [.atom .nilIface] := by kernel_rfl
@[go_sem] theorem t20_zsize : zsizeT Try.prog 20 = some 1 := by kernel_rfl
@[go_sem] theorem t21_size : sizeT Try.prog 21 = some 1 := by kernel_rfl
@[go_sem] theorem t21_bytes : bytesT Try.prog 21 = some 4 := by kernel_rfl
@[go_sem] theorem t21_agg : aggT Try.prog 21 = some false := by kernel_rfl
@[go_sem] theorem t21_u : Try.prog.underlying 21 = some (.int .i32) := by kernel_rfl
@[go_sem] theorem t21_zero : zeroT Try.prog 21 = some [.atom (.int .i32 0)] := by kernel_rfl
@[go_sem] theorem t21_zsize : zsizeT Try.prog 21 = some 1 := by kernel_rfl
@[go_sem] theorem t22_size : sizeT Try.prog 22 = some 1 := by kernel_rfl
@[go_sem] theorem t22_bytes : bytesT Try.prog 22 = some 24 := by kernel_rfl
@[go_sem] theorem t22_agg : aggT Try.prog 22 = some false := by kernel_rfl
@[go_sem] theorem t22_elem : elemT Try.prog 22 = some 3 := by kernel_rfl
@[go_sem] theorem t22_u : Try.prog.underlying 22 = some (.slice 3) := by kernel_rfl
@[go_sem] theorem t22_arr : arrT Try.prog 22 = none := by kernel_rfl
@[go_sem] theorem t22_places : placesT Try.prog 22 = none := by kernel_rfl
@[go_sem] theorem t22_zero : zeroT Try.prog 22 = some [.slice .full []] := by kernel_rfl
@[go_sem] theorem t22_zsize : zsizeT Try.prog 22 = some 1 := by kernel_rfl
@[go_sem] theorem t23_size : sizeT Try.prog 23 = some 1 := by kernel_rfl
@[go_sem] theorem t23_agg : aggT Try.prog 23 = some false := by kernel_rfl
@[go_sem] theorem t24_size : sizeT Try.prog 24 = some 1 := by kernel_rfl
@[go_sem] theorem t24_agg : aggT Try.prog 24 = some false := by kernel_rfl
@[go_sem] theorem t25_size : sizeT Try.prog 25 = some 1 := by kernel_rfl
@[go_sem] theorem t25_agg : aggT Try.prog 25 = some false := by kernel_rfl
@[go_sem] theorem t26_size : sizeT Try.prog 26 = some 1 := by kernel_rfl
@[go_sem] theorem t26_agg : aggT Try.prog 26 = some false := by kernel_rfl
@[go_sem] theorem t27_size : sizeT Try.prog 27 = some 1 := by kernel_rfl
@[go_sem] theorem t27_agg : aggT Try.prog 27 = some false := by kernel_rfl
@[go_sem] theorem t28_size : sizeT Try.prog 28 = some 1 := by kernel_rfl
@[go_sem] theorem t28_agg : aggT Try.prog 28 = some false := by kernel_rfl
@[go_sem] theorem t29_size : sizeT Try.prog 29 = some 1 := by kernel_rfl
@[go_sem] theorem t29_agg : aggT Try.prog 29 = some false := by kernel_rfl
@[go_sem] theorem t30_size : sizeT Try.prog 30 = some 1 := by kernel_rfl
@[go_sem] theorem t30_agg : aggT Try.prog 30 = some false := by kernel_rfl
@[go_sem] theorem t31_size : sizeT Try.prog 31 = some 1 := by kernel_rfl
@[go_sem] theorem t31_bytes : bytesT Try.prog 31 = some 24 := by kernel_rfl
@[go_sem] theorem t31_agg : aggT Try.prog 31 = some false := by kernel_rfl
@[go_sem] theorem t31_elem : elemT Try.prog 31 = some 35 := by kernel_rfl
@[go_sem] theorem t31_u : Try.prog.underlying 31 = some (.slice 35) := by kernel_rfl
@[go_sem] theorem t31_arr : arrT Try.prog 31 = none := by kernel_rfl
@[go_sem] theorem t31_places : placesT Try.prog 31 = none := by kernel_rfl
@[go_sem] theorem t31_zero : zeroT Try.prog 31 = some [.slice .full []] := by kernel_rfl
@[go_sem] theorem t31_zsize : zsizeT Try.prog 31 = some 1 := by kernel_rfl
@[go_sem] theorem t32_size : sizeT Try.prog 32 = some 1 := by kernel_rfl
@[go_sem] theorem t32_bytes : bytesT Try.prog 32 = some 8 := by kernel_rfl
@[go_sem] theorem t32_agg : aggT Try.prog 32 = some false := by kernel_rfl
@[go_sem] theorem t32_u : Try.prog.underlying 32 = some (.int .u64) := by kernel_rfl
@[go_sem] theorem t32_zero : zeroT Try.prog 32 = some [.atom (.int .u64 0)] := by kernel_rfl
@[go_sem] theorem t32_zsize : zsizeT Try.prog 32 = some 1 := by kernel_rfl
@[go_sem] theorem t33_size : sizeT Try.prog 33 = some 1 := by kernel_rfl
@[go_sem] theorem t33_bytes : bytesT Try.prog 33 = some 24 := by kernel_rfl
@[go_sem] theorem t33_agg : aggT Try.prog 33 = some false := by kernel_rfl
@[go_sem] theorem t33_elem : elemT Try.prog 33 = some 42 := by kernel_rfl
@[go_sem] theorem t33_u : Try.prog.underlying 33 = some (.slice 42) := by kernel_rfl
@[go_sem] theorem t33_arr : arrT Try.prog 33 = none := by kernel_rfl
@[go_sem] theorem t33_places : placesT Try.prog 33 = none := by kernel_rfl
@[go_sem] theorem t33_zero : zeroT Try.prog 33 = some [.slice .full []] := by kernel_rfl
@[go_sem] theorem t33_zsize : zsizeT Try.prog 33 = some 1 := by kernel_rfl
@[go_sem] theorem t34_size : sizeT Try.prog 34 = some 5 := by kernel_rfl
@[go_sem] theorem t34_bytes : bytesT Try.prog 34 = some 56 := by kernel_rfl
@[go_sem] theorem t34_agg : aggT Try.prog 34 = some true := by kernel_rfl
@[go_sem] theorem t34_zero : zeroT Try.prog 34 = some [.atom (.int .i64 0), .slice .full [], .atom (.int .u64 0), .atom (.int .u64 0), .atom (.int .u64 0)] := by kernel_rfl
@[go_sem] theorem t34_zsize : zsizeT Try.prog 34 = some 5 := by kernel_rfl
@[go_sem] theorem t34_arr : arrT Try.prog 34 = none := by kernel_rfl
@[go_sem] theorem t34_places : placesT Try.prog 34 = some [(0, 1), (1, 1), (2, 1), (3, 1), (4, 1)] := by kernel_rfl
@[go_sem] theorem t34_f0 : fieldT Try.prog 34 0 = some (3, 0) := by kernel_rfl
@[go_sem] theorem t34_f1 : fieldT Try.prog 34 1 = some (33, 1) := by kernel_rfl
@[go_sem] theorem t34_f2 : fieldT Try.prog 34 2 = some (32, 2) := by kernel_rfl
@[go_sem] theorem t34_f3 : fieldT Try.prog 34 3 = some (32, 3) := by kernel_rfl
@[go_sem] theorem t34_f4 : fieldT Try.prog 34 4 = some (32, 4) := by kernel_rfl
@[go_sem] theorem t35_size : sizeT Try.prog 35 = some 5 := by kernel_rfl
@[go_sem] theorem t35_bytes : bytesT Try.prog 35 = some 56 := by kernel_rfl
@[go_sem] theorem t35_agg : aggT Try.prog 35 = some true := by kernel_rfl
@[go_sem] theorem t35_zero : zeroT Try.prog 35 = some [.atom (.int .i64 0), .slice .full [], .atom (.int .u64 0), .atom (.int .u64 0), .atom (.int .u64 0)] := by kernel_rfl
@[go_sem] theorem t35_zsize : zsizeT Try.prog 35 = some 5 := by kernel_rfl
@[go_sem] theorem t35_arr : arrT Try.prog 35 = none := by kernel_rfl
@[go_sem] theorem t35_places : placesT Try.prog 35 = some [(0, 1), (1, 1), (2, 1), (3, 1), (4, 1)] := by kernel_rfl
@[go_sem] theorem t35_f0 : fieldT Try.prog 35 0 = some (3, 0) := by kernel_rfl
@[go_sem] theorem t35_f1 : fieldT Try.prog 35 1 = some (33, 1) := by kernel_rfl
@[go_sem] theorem t35_f2 : fieldT Try.prog 35 2 = some (32, 2) := by kernel_rfl
@[go_sem] theorem t35_f3 : fieldT Try.prog 35 3 = some (32, 3) := by kernel_rfl
@[go_sem] theorem t35_f4 : fieldT Try.prog 35 4 = some (32, 4) := by kernel_rfl
@[go_sem] theorem t36_size : sizeT Try.prog 36 = some 1 := by kernel_rfl
@[go_sem] theorem t36_agg : aggT Try.prog 36 = some false := by kernel_rfl
@[go_sem] theorem t37_size : sizeT Try.prog 37 = some 2 := by kernel_rfl
@[go_sem] theorem t37_bytes : bytesT Try.prog 37 = some 16 := by kernel_rfl
@[go_sem] theorem t37_agg : aggT Try.prog 37 = some true := by kernel_rfl
@[go_sem] theorem t37_zero : zeroT Try.prog 37 = some [.atom (.bool false), .atom (.int .i64 0)] := by kernel_rfl
@[go_sem] theorem t37_zsize : zsizeT Try.prog 37 = some 2 := by kernel_rfl
@[go_sem] theorem t37_arr : arrT Try.prog 37 = none := by kernel_rfl
@[go_sem] theorem t37_places : placesT Try.prog 37 = some [(0, 1), (1, 1)] := by kernel_rfl
@[go_sem] theorem t37_eqf : eqFields Try.prog 37 = some [(4, 0), (2, 1)] := by kernel_rfl
@[go_sem] theorem t37_guard : guardT Try.prog 37 = false := by kernel_rfl
@[go_sem] theorem t37_f0 : fieldT Try.prog 37 0 = some (4, 0) := by kernel_rfl
@[go_sem] theorem t37_f1 : fieldT Try.prog 37 1 = some (2, 1) := by kernel_rfl
@[go_sem] theorem t38_size : sizeT Try.prog 38 = some 2 := by kernel_rfl
@[go_sem] theorem t38_bytes : bytesT Try.prog 38 = some 16 := by kernel_rfl
@[go_sem] theorem t38_agg : aggT Try.prog 38 = some true := by kernel_rfl
@[go_sem] theorem t38_zero : zeroT Try.prog 38 = some [.atom (.bool false), .atom (.int .i64 0)] := by kernel_rfl
@[go_sem] theorem t38_zsize : zsizeT Try.prog 38 = some 2 := by kernel_rfl
@[go_sem] theorem t38_arr : arrT Try.prog 38 = none := by kernel_rfl
@[go_sem] theorem t38_places : placesT Try.prog 38 = some [(0, 1), (1, 1)] := by kernel_rfl
@[go_sem] theorem t38_eqf : eqFields Try.prog 38 = some [(4, 0), (2, 1)] := by kernel_rfl
@[go_sem] theorem t38_guard : guardT Try.prog 38 = false := by kernel_rfl
@[go_sem] theorem t38_f0 : fieldT Try.prog 38 0 = some (4, 0) := by kernel_rfl
@[go_sem] theorem t38_f1 : fieldT Try.prog 38 1 = some (2, 1) := by kernel_rfl
@[go_sem] theorem t39_size : sizeT Try.prog 39 = some 5 := by kernel_rfl
@[go_sem] theorem t39_bytes : bytesT Try.prog 39 = some 40 := by kernel_rfl
@[go_sem] theorem t39_agg : aggT Try.prog 39 = some true := by kernel_rfl
@[go_sem] theorem t39_zero : zeroT Try.prog 39 = some [.atom (.int .i64 0), .atom (.int .i64 0), .atom (.int .i64 0), .atom (.bool false), .atom (.int .i64 0)] := by kernel_rfl
@[go_sem] theorem t39_zsize : zsizeT Try.prog 39 = some 5 := by kernel_rfl
@[go_sem] theorem t39_arr : arrT Try.prog 39 = none := by kernel_rfl
@[go_sem] theorem t39_places : placesT Try.prog 39 = some [(0, 1), (1, 1), (2, 1), (3, 2)] := by kernel_rfl
@[go_sem] theorem t39_eqf : eqFields Try.prog 39 = some [(3, 0), (3, 1), (3, 2), (38, 3)] := by kernel_rfl
@[go_sem] theorem t39_guard : guardT Try.prog 39 = false := by kernel_rfl
@[go_sem] theorem t39_f0 : fieldT Try.prog 39 0 = some (3, 0) := by kernel_rfl
@[go_sem] theorem t39_f1 : fieldT Try.prog 39 1 = some (3, 1) := by kernel_rfl
@[go_sem] theorem t39_f2 : fieldT Try.prog 39 2 = some (3, 2) := by kernel_rfl
@[go_sem] theorem t39_f3 : fieldT Try.prog 39 3 = some (38, 3) := by kernel_rfl
@[go_sem] theorem t40_size : sizeT Try.prog 40 = some 5 := by kernel_rfl
@[go_sem] theorem t40_bytes : bytesT Try.prog 40 = some 40 := by kernel_rfl
@[go_sem] theorem t40_agg : aggT Try.prog 40 = some true := by kernel_rfl
@[go_sem] theorem t40_zero : zeroT Try.prog 40 = some [.atom (.int .i64 0), .atom (.int .i64 0), .atom (.int .i64 0), .atom (.bool false), .atom (.int .i64 0)] := by kernel_rfl
@[go_sem] theorem t40_zsize : zsizeT Try.prog 40 = some 5 := by kernel_rfl
@[go_sem] theorem t40_arr : arrT Try.prog 40 = none := by kernel_rfl
@[go_sem] theorem t40_places : placesT Try.prog 40 = some [(0, 1), (1, 1), (2, 1), (3, 2)] := by kernel_rfl
@[go_sem] theorem t40_eqf : eqFields Try.prog 40 = some [(3, 0), (3, 1), (3, 2), (38, 3)] := by kernel_rfl
@[go_sem] theorem t40_guard : guardT Try.prog 40 = false := by kernel_rfl
@[go_sem] theorem t40_f0 : fieldT Try.prog 40 0 = some (3, 0) := by kernel_rfl
@[go_sem] theorem t40_f1 : fieldT Try.prog 40 1 = some (3, 1) := by kernel_rfl
@[go_sem] theorem t40_f2 : fieldT Try.prog 40 2 = some (3, 2) := by kernel_rfl
@[go_sem] theorem t40_f3 : fieldT Try.prog 40 3 = some (38, 3) := by kernel_rfl
@[go_sem] theorem t41_size : sizeT Try.prog 41 = some 14 := by kernel_rfl
@[go_sem] theorem t41_bytes : bytesT Try.prog 41 = some 128 := by kernel_rfl
@[go_sem] theorem t41_agg : aggT Try.prog 41 = some true := by kernel_rfl
@[go_sem] theorem t41_zero : zeroT Try.prog 41 = some [.atom (.int .i64 0), .atom (.int .i64 0), .atom (.int .i64 0), .atom (.int .i64 0), .atom (.int .i64 0), .atom (.int .i64 0), .atom (.bool false), .atom (.int .i64 0), .atom (.int .i64 0), .atom (.int .i64 0), .atom (.int .i64 0), .atom (.bool false), .atom (.int .i64 0), .slice .full []] := by kernel_rfl
@[go_sem] theorem t41_zsize : zsizeT Try.prog 41 = some 14 := by kernel_rfl
@[go_sem] theorem t41_arr : arrT Try.prog 41 = none := by kernel_rfl
@[go_sem] theorem t41_places : placesT Try.prog 41 = some [(0, 1), (1, 1), (2, 1), (3, 5), (8, 5), (13, 1)] := by kernel_rfl
@[go_sem] theorem t41_f0 : fieldT Try.prog 41 0 = some (3, 0) := by kernel_rfl
@[go_sem] theorem t41_f1 : fieldT Try.prog 41 1 = some (3, 1) := by kernel_rfl
@[go_sem] theorem t41_f2 : fieldT Try.prog 41 2 = some (3, 2) := by kernel_rfl
@[go_sem] theorem t41_f3 : fieldT Try.prog 41 3 = some (40, 3) := by kernel_rfl
@[go_sem] theorem t41_f4 : fieldT Try.prog 41 4 = some (40, 8) := by kernel_rfl
@[go_sem] theorem t41_f5 : fieldT Try.prog 41 5 = some (33, 13) := by kernel_rfl
@[go_sem] theorem t42_size : sizeT Try.prog 42 = some 14 := by kernel_rfl
@[go_sem] theorem t42_bytes : bytesT Try.prog 42 = some 128 := by kernel_rfl
@[go_sem] theorem t42_agg : aggT Try.prog 42 = some true := by kernel_rfl
@[go_sem] theorem t42_zero : zeroT Try.prog 42 = some [.atom (.int .i64 0), .atom (.int .i64 0), .atom (.int .i64 0), .atom (.int .i64 0), .atom (.int .i64 0), .atom (.int .i64 0), .atom (.bool false), .atom (.int .i64 0), .atom (.int .i64 0), .atom (.int .i64 0), .atom (.int .i64 0), .atom (.bool false), .atom (.int .i64 0), .slice .full []] := by kernel_rfl
@[go_sem] theorem t42_zsize : zsizeT Try.prog 42 = some 14 := by kernel_rfl
@[go_sem] theorem t42_arr : arrT Try.prog 42 = none := by kernel_rfl
@[go_sem] theorem t42_places : placesT Try.prog 42 = some [(0, 1), (1, 1), (2, 1), (3, 5), (8, 5), (13, 1)] := by kernel_rfl
@[go_sem] theorem t42_f0 : fieldT Try.prog 42 0 = some (3, 0) := by kernel_rfl
@[go_sem] theorem t42_f1 : fieldT Try.prog 42 1 = some (3, 1) := by kernel_rfl
@[go_sem] theorem t42_f2 : fieldT Try.prog 42 2 = some (3, 2) := by kernel_rfl
@[go_sem] theorem t42_f3 : fieldT Try.prog 42 3 = some (40, 3) := by kernel_rfl
@[go_sem] theorem t42_f4 : fieldT Try.prog 42 4 = some (40, 8) := by kernel_rfl
@[go_sem] theorem t42_f5 : fieldT Try.prog 42 5 = some (33, 13) := by kernel_rfl
@[go_sem] theorem t43_size : sizeT Try.prog 43 = some 3 := by kernel_rfl
@[go_sem] theorem t43_bytes : bytesT Try.prog 43 = some 56 := by kernel_rfl
@[go_sem] theorem t43_agg : aggT Try.prog 43 = some true := by kernel_rfl
@[go_sem] theorem t43_zero : zeroT Try.prog 43 = some [.atom (.int .i64 0), .slice .full [], .slice .full []] := by kernel_rfl
@[go_sem] theorem t43_zsize : zsizeT Try.prog 43 = some 3 := by kernel_rfl
@[go_sem] theorem t43_arr : arrT Try.prog 43 = none := by kernel_rfl
@[go_sem] theorem t43_places : placesT Try.prog 43 = some [(0, 1), (1, 1), (2, 1)] := by kernel_rfl
@[go_sem] theorem t43_f0 : fieldT Try.prog 43 0 = some (3, 0) := by kernel_rfl
@[go_sem] theorem t43_f1 : fieldT Try.prog 43 1 = some (22, 1) := by kernel_rfl
@[go_sem] theorem t43_f2 : fieldT Try.prog 43 2 = some (33, 2) := by kernel_rfl
@[go_sem] theorem t44_size : sizeT Try.prog 44 = some 3 := by kernel_rfl
@[go_sem] theorem t44_bytes : bytesT Try.prog 44 = some 56 := by kernel_rfl
@[go_sem] theorem t44_agg : aggT Try.prog 44 = some true := by kernel_rfl
@[go_sem] theorem t44_zero : zeroT Try.prog 44 = some [.atom (.int .i64 0), .slice .full [], .slice .full []] := by kernel_rfl
@[go_sem] theorem t44_zsize : zsizeT Try.prog 44 = some 3 := by kernel_rfl
@[go_sem] theorem t44_arr : arrT Try.prog 44 = none := by kernel_rfl
@[go_sem] theorem t44_places : placesT Try.prog 44 = some [(0, 1), (1, 1), (2, 1)] := by kernel_rfl
@[go_sem] theorem t44_f0 : fieldT Try.prog 44 0 = some (3, 0) := by kernel_rfl
@[go_sem] theorem t44_f1 : fieldT Try.prog 44 1 = some (22, 1) := by kernel_rfl
@[go_sem] theorem t44_f2 : fieldT Try.prog 44 2 = some (33, 2) := by kernel_rfl
@[go_sem] theorem t46_size : sizeT Try.prog 46 = some 1 := by kernel_rfl
@[go_sem] theorem t46_agg : aggT Try.prog 46 = some false := by kernel_rfl
@[go_sem] theorem t47_size : sizeT Try.prog 47 = some 3 := by kernel_rfl
@[go_sem] theorem t47_bytes : bytesT Try.prog 47 = some 56 := by kernel_rfl
@[go_sem] theorem t47_agg : aggT Try.prog 47 = some true := by kernel_rfl
@[go_sem] theorem t47_zero : zeroT Try.prog 47 = some [.atom (.int .i64 0), .slice .full [], .slice .full []] := by kernel_rfl
@[go_sem] theorem t47_zsize : zsizeT Try.prog 47 = some 3 := by kernel_rfl
@[go_sem] theorem t47_arr : arrT Try.prog 47 = none := by kernel_rfl
@[go_sem] theorem t47_places : placesT Try.prog 47 = some [(0, 1), (1, 1), (2, 1)] := by kernel_rfl
@[go_sem] theorem t47_f0 : fieldT Try.prog 47 0 = some (3, 0) := by kernel_rfl
@[go_sem] theorem t47_f1 : fieldT Try.prog 47 1 = some (22, 1) := by kernel_rfl
@[go_sem] theorem t47_f2 : fieldT Try.prog 47 2 = some (33, 2) := by kernel_rfl
@[go_sem] theorem t49_size : sizeT Try.prog 49 = some 1 := by kernel_rfl
@[go_sem] theorem t49_agg : aggT Try.prog 49 = some false := by kernel_rfl
@[go_sem] theorem t50_size : sizeT Try.prog 50 = some 1 := by kernel_rfl
@[go_sem] theorem t50_agg : aggT Try.prog 50 = some false := by kernel_rfl
@[go_sem] theorem t51_size : sizeT Try.prog 51 = some 1 := by kernel_rfl
@[go_sem] theorem t51_agg : aggT Try.prog 51 = some false := by kernel_rfl
@[go_sem] theorem t52_size : sizeT Try.prog 52 = some 1 := by kernel_rfl
@[go_sem] theorem t52_agg : aggT Try.prog 52 = some false := by kernel_rfl
@[go_sem] theorem t53_size : sizeT Try.prog 53 = some 1 := by kernel_rfl
@[go_sem] theorem t53_bytes : bytesT Try.prog 53 = some 24 := by kernel_rfl
@[go_sem] theorem t53_agg : aggT Try.prog 53 = some false := by kernel_rfl
@[go_sem] theorem t53_elem : elemT Try.prog 53 = some 55 := by kernel_rfl
@[go_sem] theorem t53_u : Try.prog.underlying 53 = some (.slice 55) := by kernel_rfl
@[go_sem] theorem t53_arr : arrT Try.prog 53 = none := by kernel_rfl
@[go_sem] theorem t53_places : placesT Try.prog 53 = none := by kernel_rfl
@[go_sem] theorem t53_zero : zeroT Try.prog 53 = some [.slice .full []] := by kernel_rfl
@[go_sem] theorem t53_zsize : zsizeT Try.prog 53 = some 1 := by kernel_rfl
@[go_sem] theorem t54_size : sizeT Try.prog 54 = some 5 := by kernel_rfl
@[go_sem] theorem t54_bytes : bytesT Try.prog 54 = some 72 := by kernel_rfl
@[go_sem] theorem t54_agg : aggT Try.prog 54 = some true := by kernel_rfl
@[go_sem] theorem t54_zero : zeroT Try.prog 54 = some [.atom (.int .i64 0), .atom (.int .i64 0), .slice .full [], .slice .full [], .atom (.bool false)] := by kernel_rfl
@[go_sem] theorem t54_zsize : zsizeT Try.prog 54 = some 5 := by kernel_rfl
@[go_sem] theorem t54_arr : arrT Try.prog 54 = none := by kernel_rfl
@[go_sem] theorem t54_places : placesT Try.prog 54 = some [(0, 1), (1, 1), (2, 1), (3, 1), (4, 1)] := by kernel_rfl
@[go_sem] theorem t54_f0 : fieldT Try.prog 54 0 = some (3, 0) := by kernel_rfl
@[go_sem] theorem t54_f1 : fieldT Try.prog 54 1 = some (3, 1) := by kernel_rfl
@[go_sem] theorem t54_f2 : fieldT Try.prog 54 2 = some (53, 2) := by kernel_rfl
@[go_sem] theorem t54_f3 : fieldT Try.prog 54 3 = some (33, 3) := by kernel_rfl
@[go_sem] theorem t54_f4 : fieldT Try.prog 54 4 = some (4, 4) := by kernel_rfl
@[go_sem] theorem t55_size : sizeT Try.prog 55 = some 5 := by kernel_rfl
@[go_sem] theorem t55_bytes : bytesT Try.prog 55 = some 72 := by kernel_rfl
@[go_sem] theorem t55_agg : aggT Try.prog 55 = some true := by kernel_rfl
@[go_sem] theorem t55_zero : zeroT Try.prog 55 = some [.atom (.int .i64 0), .atom (.int .i64 0), .slice .full [], .slice .full [], .atom (.bool false)] := by kernel_rfl
@[go_sem] theorem t55_zsize : zsizeT Try.prog 55 = some 5 := by kernel_rfl
@[go_sem] theorem t55_arr : arrT Try.prog 55 = none := by kernel_rfl
@[go_sem] theorem t55_places : placesT Try.prog 55 = some [(0, 1), (1, 1), (2, 1), (3, 1), (4, 1)] := by kernel_rfl
@[go_sem] theorem t55_f0 : fieldT Try.prog 55 0 = some (3, 0) := by kernel_rfl
@[go_sem] theorem t55_f1 : fieldT Try.prog 55 1 = some (3, 1) := by kernel_rfl
@[go_sem] theorem t55_f2 : fieldT Try.prog 55 2 = some (53, 2) := by kernel_rfl
@[go_sem] theorem t55_f3 : fieldT Try.prog 55 3 = some (33, 3) := by kernel_rfl
@[go_sem] theorem t55_f4 : fieldT Try.prog 55 4 = some (4, 4) := by kernel_rfl
@[go_sem] theorem t56_size : sizeT Try.prog 56 = some 6 := by kernel_rfl
@[go_sem] theorem t56_bytes : bytesT Try.prog 56 = some 96 := by kernel_rfl
@[go_sem] theorem t56_agg : aggT Try.prog 56 = some true := by kernel_rfl
@[go_sem] theorem t56_zero : zeroT Try.prog 56 = some [.slice .full [], .atom (.int .i64 0), .atom (.int .i64 0), .slice .full [], .slice .full [], .atom (.bool false)] := by kernel_rfl
@[go_sem] theorem t56_zsize : zsizeT Try.prog 56 = some 6 := by kernel_rfl
@[go_sem] theorem t56_arr : arrT Try.prog 56 = none := by kernel_rfl
@[go_sem] theorem t56_places : placesT Try.prog 56 = some [(0, 1), (1, 5)] := by kernel_rfl
@[go_sem] theorem t56_f0 : fieldT Try.prog 56 0 = some (22, 0) := by kernel_rfl
@[go_sem] theorem t56_f1 : fieldT Try.prog 56 1 = some (55, 1) := by kernel_rfl
@[go_sem] theorem t57_size : sizeT Try.prog 57 = some 6 := by kernel_rfl
@[go_sem] theorem t57_bytes : bytesT Try.prog 57 = some 96 := by kernel_rfl
@[go_sem] theorem t57_agg : aggT Try.prog 57 = some true := by kernel_rfl
@[go_sem] theorem t57_zero : zeroT Try.prog 57 = some [.slice .full [], .atom (.int .i64 0), .atom (.int .i64 0), .slice .full [], .slice .full [], .atom (.bool false)] := by kernel_rfl
@[go_sem] theorem t57_zsize : zsizeT Try.prog 57 = some 6 := by kernel_rfl
@[go_sem] theorem t57_arr : arrT Try.prog 57 = none := by kernel_rfl
@[go_sem] theorem t57_places : placesT Try.prog 57 = some [(0, 1), (1, 5)] := by kernel_rfl
@[go_sem] theorem t57_f0 : fieldT Try.prog 57 0 = some (22, 0) := by kernel_rfl
@[go_sem] theorem t57_f1 : fieldT Try.prog 57 1 = some (55, 1) := by kernel_rfl
@[go_sem] theorem t58_size : sizeT Try.prog 58 = some 1 := by kernel_rfl
@[go_sem] theorem t58_agg : aggT Try.prog 58 = some false := by kernel_rfl
@[go_sem] theorem t59_size : sizeT Try.prog 59 = some 1 := by kernel_rfl
@[go_sem] theorem t59_bytes : bytesT Try.prog 59 = some 24 := by kernel_rfl
@[go_sem] theorem t59_agg : aggT Try.prog 59 = some false := by kernel_rfl
@[go_sem] theorem t59_elem : elemT Try.prog 59 = some 122 := by kernel_rfl
@[go_sem] theorem t59_u : Try.prog.underlying 59 = some (.slice 122) := by kernel_rfl
@[go_sem] theorem t59_arr : arrT Try.prog 59 = none := by kernel_rfl
@[go_sem] theorem t59_places : placesT Try.prog 59 = none := by kernel_rfl
@[go_sem] theorem t59_zero : zeroT Try.prog 59 = some [.slice .full []] := by kernel_rfl
@[go_sem] theorem t59_zsize : zsizeT Try.prog 59 = some 1 := by kernel_rfl
@[go_sem] theorem t60_size : sizeT Try.prog 60 = some 1 := by kernel_rfl
@[go_sem] theorem t60_bytes : bytesT Try.prog 60 = some 24 := by kernel_rfl
@[go_sem] theorem t60_agg : aggT Try.prog 60 = some false := by kernel_rfl
@[go_sem] theorem t60_elem : elemT Try.prog 60 = some 120 := by kernel_rfl
@[go_sem] theorem t60_u : Try.prog.underlying 60 = some (.slice 120) := by kernel_rfl
@[go_sem] theorem t60_arr : arrT Try.prog 60 = none := by kernel_rfl
@[go_sem] theorem t60_places : placesT Try.prog 60 = none := by kernel_rfl
@[go_sem] theorem t60_zero : zeroT Try.prog 60 = some [.slice .full []] := by kernel_rfl
@[go_sem] theorem t60_zsize : zsizeT Try.prog 60 = some 1 := by kernel_rfl
@[go_sem] theorem t61_size : sizeT Try.prog 61 = some 2 := by kernel_rfl
@[go_sem] theorem t61_bytes : bytesT Try.prog 61 = some 48 := by kernel_rfl
@[go_sem] theorem t61_agg : aggT Try.prog 61 = some true := by kernel_rfl
@[go_sem] theorem t61_zero : zeroT Try.prog 61 = some [.slice .full [], .slice .full []] := by kernel_rfl
@[go_sem] theorem t61_zsize : zsizeT Try.prog 61 = some 2 := by kernel_rfl
@[go_sem] theorem t61_arr : arrT Try.prog 61 = none := by kernel_rfl
@[go_sem] theorem t61_places : placesT Try.prog 61 = some [(0, 1), (1, 1)] := by kernel_rfl
@[go_sem] theorem t61_f0 : fieldT Try.prog 61 0 = some (59, 0) := by kernel_rfl
@[go_sem] theorem t61_f1 : fieldT Try.prog 61 1 = some (60, 1) := by kernel_rfl
@[go_sem] theorem t62_size : sizeT Try.prog 62 = some 2 := by kernel_rfl
@[go_sem] theorem t62_bytes : bytesT Try.prog 62 = some 48 := by kernel_rfl
@[go_sem] theorem t62_agg : aggT Try.prog 62 = some true := by kernel_rfl
@[go_sem] theorem t62_zero : zeroT Try.prog 62 = some [.slice .full [], .slice .full []] := by kernel_rfl
@[go_sem] theorem t62_zsize : zsizeT Try.prog 62 = some 2 := by kernel_rfl
@[go_sem] theorem t62_arr : arrT Try.prog 62 = none := by kernel_rfl
@[go_sem] theorem t62_places : placesT Try.prog 62 = some [(0, 1), (1, 1)] := by kernel_rfl
@[go_sem] theorem t62_f0 : fieldT Try.prog 62 0 = some (59, 0) := by kernel_rfl
@[go_sem] theorem t62_f1 : fieldT Try.prog 62 1 = some (60, 1) := by kernel_rfl
@[go_sem] theorem t63_size : sizeT Try.prog 63 = some 1 := by kernel_rfl
@[go_sem] theorem t63_agg : aggT Try.prog 63 = some false := by kernel_rfl
@[go_sem] theorem t64_size : sizeT Try.prog 64 = some 1 := by kernel_rfl
@[go_sem] theorem t64_bytes : bytesT Try.prog 64 = some 24 := by kernel_rfl
@[go_sem] theorem t64_agg : aggT Try.prog 64 = some false := by kernel_rfl
@[go_sem] theorem t64_elem : elemT Try.prog 64 = some 126 := by kernel_rfl
@[go_sem] theorem t64_u : Try.prog.underlying 64 = some (.slice 126) := by kernel_rfl
@[go_sem] theorem t64_arr : arrT Try.prog 64 = none := by kernel_rfl
@[go_sem] theorem t64_places : placesT Try.prog 64 = none := by kernel_rfl
@[go_sem] theorem t64_zero : zeroT Try.prog 64 = some [.slice .full []] := by kernel_rfl
@[go_sem] theorem t64_zsize : zsizeT Try.prog 64 = some 1 := by kernel_rfl
@[go_sem] theorem t65_size : sizeT Try.prog 65 = some 1 := by kernel_rfl
@[go_sem] theorem t65_bytes : bytesT Try.prog 65 = some 24 := by kernel_rfl
@[go_sem] theorem t65_agg : aggT Try.prog 65 = some false := by kernel_rfl
@[go_sem] theorem t65_elem : elemT Try.prog 65 = some 127 := by kernel_rfl
@[go_sem] theorem t65_u : Try.prog.underlying 65 = some (.slice 127) := by kernel_rfl
@[go_sem] theorem t65_arr : arrT Try.prog 65 = none := by kernel_rfl
@[go_sem] theorem t65_places : placesT Try.prog 65 = none := by kernel_rfl
@[go_sem] theorem t65_zero : zeroT Try.prog 65 = some [.slice .full []] := by kernel_rfl
@[go_sem] theorem t65_zsize : zsizeT Try.prog 65 = some 1 := by kernel_rfl
@[go_sem] theorem t66_size : sizeT Try.prog 66 = some 2 := by kernel_rfl
@[go_sem] theorem t66_bytes : bytesT Try.prog 66 = some 48 := by kernel_rfl
@[go_sem] theorem t66_agg : aggT Try.prog 66 = some true := by kernel_rfl
@[go_sem] theorem t66_zero : zeroT Try.prog 66 = some [.slice .full [], .slice .full []] := by kernel_rfl
@[go_sem] theorem t66_zsize : zsizeT Try.prog 66 = some 2 := by kernel_rfl
@[go_sem] theorem t66_arr : arrT Try.prog 66 = none := by kernel_rfl
@[go_sem] theorem t66_places : placesT Try.prog 66 = some [(0, 1), (1, 1)] := by kernel_rfl
@[go_sem] theorem t66_f0 : fieldT Try.prog 66 0 = some (64, 0) := by kernel_rfl
@[go_sem] theorem t66_f1 : fieldT Try.prog 66 1 = some (65, 1) := by kernel_rfl
@[go_sem] theorem t67_size : sizeT Try.prog 67 = some 2 := by kernel_rfl
@[go_sem] theorem t67_bytes : bytesT Try.prog 67 = some 48 := by kernel_rfl
@[go_sem] theorem t67_agg : aggT Try.prog 67 = some true := by kernel_rfl
@[go_sem] theorem t67_zero : zeroT Try.prog 67 = some [.slice .full [], .slice .full []] := by kernel_rfl
@[go_sem] theorem t67_zsize : zsizeT Try.prog 67 = some 2 := by kernel_rfl
@[go_sem] theorem t67_arr : arrT Try.prog 67 = none := by kernel_rfl
@[go_sem] theorem t67_places : placesT Try.prog 67 = some [(0, 1), (1, 1)] := by kernel_rfl
@[go_sem] theorem t67_f0 : fieldT Try.prog 67 0 = some (64, 0) := by kernel_rfl
@[go_sem] theorem t67_f1 : fieldT Try.prog 67 1 = some (65, 1) := by kernel_rfl
@[go_sem] theorem t68_size : sizeT Try.prog 68 = some 1 := by kernel_rfl
@[go_sem] theorem t68_agg : aggT Try.prog 68 = some false := by kernel_rfl
@[go_sem] theorem t69_size : sizeT Try.prog 69 = some 1 := by kernel_rfl
@[go_sem] theorem t69_agg : aggT Try.prog 69 = some false := by kernel_rfl
@[go_sem] theorem t70_size : sizeT Try.prog 70 = some 1 := by kernel_rfl
@[go_sem] theorem t70_agg : aggT Try.prog 70 = some false := by kernel_rfl
@[go_sem] theorem t71_size : sizeT Try.prog 71 = some 1 := by kernel_rfl
@[go_sem] theorem t71_agg : aggT Try.prog 71 = some false := by kernel_rfl
@[go_sem] theorem t72_size : sizeT Try.prog 72 = some 1 := by kernel_rfl
@[go_sem] theorem t72_agg : aggT Try.prog 72 = some false := by kernel_rfl
@[go_sem] theorem t73_size : sizeT Try.prog 73 = some 1 := by kernel_rfl
@[go_sem] theorem t73_agg : aggT Try.prog 73 = some false := by kernel_rfl
@[go_sem] theorem t74_size : sizeT Try.prog 74 = some 1 := by kernel_rfl
@[go_sem] theorem t74_agg : aggT Try.prog 74 = some false := by kernel_rfl
@[go_sem] theorem t76_size : sizeT Try.prog 76 = some 1 := by kernel_rfl
@[go_sem] theorem t76_agg : aggT Try.prog 76 = some false := by kernel_rfl
@[go_sem] theorem t77_size : sizeT Try.prog 77 = some 1 := by kernel_rfl
@[go_sem] theorem t77_bytes : bytesT Try.prog 77 = some 24 := by kernel_rfl
@[go_sem] theorem t77_agg : aggT Try.prog 77 = some false := by kernel_rfl
@[go_sem] theorem t77_elem : elemT Try.prog 77 = some 32 := by kernel_rfl
@[go_sem] theorem t77_u : Try.prog.underlying 77 = some (.slice 32) := by kernel_rfl
@[go_sem] theorem t77_arr : arrT Try.prog 77 = none := by kernel_rfl
@[go_sem] theorem t77_places : placesT Try.prog 77 = none := by kernel_rfl
@[go_sem] theorem t77_zero : zeroT Try.prog 77 = some [.slice .full []] := by kernel_rfl
@[go_sem] theorem t77_zsize : zsizeT Try.prog 77 = some 1 := by kernel_rfl
@[go_sem] theorem t78_size : sizeT Try.prog 78 = some 2 := by kernel_rfl
@[go_sem] theorem t78_bytes : bytesT Try.prog 78 = some 48 := by kernel_rfl
@[go_sem] theorem t78_agg : aggT Try.prog 78 = some true := by kernel_rfl
@[go_sem] theorem t78_zero : zeroT Try.prog 78 = some [.slice .full [], .slice .full []] := by kernel_rfl
@[go_sem] theorem t78_zsize : zsizeT Try.prog 78 = some 2 := by kernel_rfl
@[go_sem] theorem t78_arr : arrT Try.prog 78 = none := by kernel_rfl
@[go_sem] theorem t78_places : placesT Try.prog 78 = some [(0, 1), (1, 1)] := by kernel_rfl
@[go_sem] theorem t78_f0 : fieldT Try.prog 78 0 = some (77, 0) := by kernel_rfl
@[go_sem] theorem t78_f1 : fieldT Try.prog 78 1 = some (77, 1) := by kernel_rfl
@[go_sem] theorem t79_size : sizeT Try.prog 79 = some 2 := by kernel_rfl
@[go_sem] theorem t79_bytes : bytesT Try.prog 79 = some 48 := by kernel_rfl
@[go_sem] theorem t79_agg : aggT Try.prog 79 = some true := by kernel_rfl
@[go_sem] theorem t79_zero : zeroT Try.prog 79 = some [.slice .full [], .slice .full []] := by kernel_rfl
@[go_sem] theorem t79_zsize : zsizeT Try.prog 79 = some 2 := by kernel_rfl
@[go_sem] theorem t79_arr : arrT Try.prog 79 = none := by kernel_rfl
@[go_sem] theorem t79_places : placesT Try.prog 79 = some [(0, 1), (1, 1)] := by kernel_rfl
@[go_sem] theorem t79_f0 : fieldT Try.prog 79 0 = some (77, 0) := by kernel_rfl
@[go_sem] theorem t79_f1 : fieldT Try.prog 79 1 = some (77, 1) := by kernel_rfl
@[go_sem] theorem t80_size : sizeT Try.prog 80 = some 4 := by kernel_rfl
@[go_sem] theorem t80_bytes : bytesT Try.prog 80 = some 80 := by kernel_rfl
@[go_sem] theorem t80_agg : aggT Try.prog 80 = some true := by kernel_rfl
@[go_sem] theorem t80_zero : zeroT Try.prog 80 = some [.atom (.int .i64 0), .slice .full [], .slice .full [], .slice .full []] := by kernel_rfl
@[go_sem] theorem t80_zsize : zsizeT Try.prog 80 = some 4 := by kernel_rfl
@[go_sem] theorem t80_arr : arrT Try.prog 80 = none := by kernel_rfl
@[go_sem] theorem t80_places : placesT Try.prog 80 = some [(0, 1), (1, 1), (2, 2)] := by kernel_rfl
@[go_sem] theorem t80_f0 : fieldT Try.prog 80 0 = some (3, 0) := by kernel_rfl
@[go_sem] theorem t80_f1 : fieldT Try.prog 80 1 = some (31, 1) := by kernel_rfl
@[go_sem] theorem t80_f2 : fieldT Try.prog 80 2 = some (79, 2) := by kernel_rfl
@[go_sem] theorem t81_size : sizeT Try.prog 81 = some 4 := by kernel_rfl
@[go_sem] theorem t81_bytes : bytesT Try.prog 81 = some 80 := by kernel_rfl
@[go_sem] theorem t81_agg : aggT Try.prog 81 = some true := by kernel_rfl
@[go_sem] theorem t81_zero : zeroT Try.prog 81 = some [.atom (.int .i64 0), .slice .full [], .slice .full [], .slice .full []] := by kernel_rfl
@[go_sem] theorem t81_zsize : zsizeT Try.prog 81 = some 4 := by kernel_rfl
@[go_sem] theorem t81_arr : arrT Try.prog 81 = none := by kernel_rfl
@[go_sem] theorem t81_places : placesT Try.prog 81 = some [(0, 1), (1, 1), (2, 2)] := by kernel_rfl
@[go_sem] theorem t81_f0 : fieldT Try.prog 81 0 = some (3, 0) := by kernel_rfl
@[go_sem] theorem t81_f1 : fieldT Try.prog 81 1 = some (31, 1) := by kernel_rfl
@[go_sem] theorem t81_f2 : fieldT Try.prog 81 2 = some (79, 2) := by kernel_rfl
@[go_sem] theorem t82_size : sizeT Try.prog 82 = some 2 := by kernel_rfl
@[go_sem] theorem t82_bytes : bytesT Try.prog 82 = some 16 := by kernel_rfl
@[go_sem] theorem t82_agg : aggT Try.prog 82 = some true := by kernel_rfl
@[go_sem] theorem t82_eqf : eqFields Try.prog 82 = none := by kernel_rfl
@[go_sem] theorem t82_guard : guardT Try.prog 82 = false := by kernel_rfl
@[go_sem] theorem t82_arr : arrT Try.prog 82 = some (2, 32) := by kernel_rfl
@[go_sem] theorem t82_places : placesT Try.prog 82 = none := by kernel_rfl
@[go_sem] theorem t82_u : Try.prog.underlying 82 = some (.array 2 32) := by kernel_rfl
@[go_sem] theorem t82_elem : elemT Try.prog 82 = none := by kernel_rfl
@[go_sem] theorem t82_zero : zeroT Try.prog 82 = some [.atom (.int .u64 0), .atom (.int .u64 0)] := by kernel_rfl
@[go_sem] theorem t82_zsize : zsizeT Try.prog 82 = some 2 := by kernel_rfl
@[go_sem] theorem t83_size : sizeT Try.prog 83 = some 1 := by kernel_rfl
@[go_sem] theorem t83_agg : aggT Try.prog 83 = some false := by kernel_rfl
@[go_sem] theorem t84_size : sizeT Try.prog 84 = some 1 := by kernel_rfl
@[go_sem] theorem t84_agg : aggT Try.prog 84 = some false := by kernel_rfl
@[go_sem] theorem t85_size : sizeT Try.prog 85 = some 4 := by kernel_rfl
@[go_sem] theorem t85_bytes : bytesT Try.prog 85 = some 80 := by kernel_rfl
@[go_sem] theorem t85_agg : aggT Try.prog 85 = some true := by kernel_rfl
@[go_sem] theorem t85_zero : zeroT Try.prog 85 = some [.atom (.int .i64 0), .slice .full [], .slice .full [], .slice .full []] := by kernel_rfl
@[go_sem] theorem t85_zsize : zsizeT Try.prog 85 = some 4 := by kernel_rfl
@[go_sem] theorem t85_arr : arrT Try.prog 85 = none := by kernel_rfl
@[go_sem] theorem t85_places : placesT Try.prog 85 = some [(0, 1), (1, 1), (2, 2)] := by kernel_rfl
@[go_sem] theorem t85_f0 : fieldT Try.prog 85 0 = some (3, 0) := by kernel_rfl
@[go_sem] theorem t85_f1 : fieldT Try.prog 85 1 = some (31, 1) := by kernel_rfl
@[go_sem] theorem t85_f2 : fieldT Try.prog 85 2 = some (79, 2) := by kernel_rfl
@[go_sem] theorem t86_size : sizeT Try.prog 86 = some 1 := by kernel_rfl
@[go_sem] theorem t86_agg : aggT Try.prog 86 = some false := by kernel_rfl
@[go_sem] theorem t87_size : sizeT Try.prog 87 = some 1 := by kernel_rfl
@[go_sem] theorem t87_agg : aggT Try.prog 87 = some false := by kernel_rfl
@[go_sem] theorem t88_size : sizeT Try.prog 88 = some 1 := by kernel_rfl
@[go_sem] theorem t88_agg : aggT Try.prog 88 = some false := by kernel_rfl
@[go_sem] theorem t89_size : sizeT Try.prog 89 = some 1 := by kernel_rfl
@[go_sem] theorem t89_agg : aggT Try.prog 89 = some false := by kernel_rfl
@[go_sem] theorem t90_size : sizeT Try.prog 90 = some 1 := by kernel_rfl
@[go_sem] theorem t90_agg : aggT Try.prog 90 = some false := by kernel_rfl
@[go_sem] theorem t91_size : sizeT Try.prog 91 = some 1 := by kernel_rfl
@[go_sem] theorem t91_agg : aggT Try.prog 91 = some false := by kernel_rfl
@[go_sem] theorem t92_size : sizeT Try.prog 92 = some 1 := by kernel_rfl
@[go_sem] theorem t92_agg : aggT Try.prog 92 = some false := by kernel_rfl
@[go_sem] theorem t93_size : sizeT Try.prog 93 = some 1 := by kernel_rfl
@[go_sem] theorem t93_agg : aggT Try.prog 93 = some false := by kernel_rfl
@[go_sem] theorem t94_size : sizeT Try.prog 94 = some 1 := by kernel_rfl
@[go_sem] theorem t94_agg : aggT Try.prog 94 = some false := by kernel_rfl
@[go_sem] theorem t95_size : sizeT Try.prog 95 = some 1 := by kernel_rfl
@[go_sem] theorem t95_agg : aggT Try.prog 95 = some false := by kernel_rfl
@[go_sem] theorem t96_size : sizeT Try.prog 96 = some 1 := by kernel_rfl
@[go_sem] theorem t96_agg : aggT Try.prog 96 = some false := by kernel_rfl
@[go_sem] theorem t97_size : sizeT Try.prog 97 = some 1 := by kernel_rfl
@[go_sem] theorem t97_agg : aggT Try.prog 97 = some false := by kernel_rfl
@[go_sem] theorem t98_size : sizeT Try.prog 98 = some 1 := by kernel_rfl
@[go_sem] theorem t98_bytes : bytesT Try.prog 98 = some 2 := by kernel_rfl
@[go_sem] theorem t98_agg : aggT Try.prog 98 = some false := by kernel_rfl
@[go_sem] theorem t98_u : Try.prog.underlying 98 = some (.int .u16) := by kernel_rfl
@[go_sem] theorem t98_zero : zeroT Try.prog 98 = some [.atom (.int .u16 0)] := by kernel_rfl
@[go_sem] theorem t98_zsize : zsizeT Try.prog 98 = some 1 := by kernel_rfl
@[go_sem] theorem t99_size : sizeT Try.prog 99 = some 3 := by kernel_rfl
@[go_sem] theorem t99_bytes : bytesT Try.prog 99 = some 6 := by kernel_rfl
@[go_sem] theorem t99_agg : aggT Try.prog 99 = some true := by kernel_rfl
@[go_sem] theorem t99_eqf : eqFields Try.prog 99 = none := by kernel_rfl
@[go_sem] theorem t99_guard : guardT Try.prog 99 = false := by kernel_rfl
@[go_sem] theorem t99_arr : arrT Try.prog 99 = some (3, 98) := by kernel_rfl
@[go_sem] theorem t99_places : placesT Try.prog 99 = none := by kernel_rfl
@[go_sem] theorem t99_u : Try.prog.underlying 99 = some (.array 3 98) := by kernel_rfl
@[go_sem] theorem t99_elem : elemT Try.prog 99 = none := by kernel_rfl
@[go_sem] theorem t99_zero : zeroT Try.prog 99 = some [.atom (.int .u16 0), .atom (.int .u16 0), .atom (.int .u16 0)] := by kernel_rfl
@[go_sem] theorem t99_zsize : zsizeT Try.prog 99 = some 3 := by kernel_rfl
@[go_sem] theorem t100_size : sizeT Try.prog 100 = some 1 := by kernel_rfl
@[go_sem] theorem t100_agg : aggT Try.prog 100 = some false := by kernel_rfl
@[go_sem] theorem t101_size : sizeT Try.prog 101 = some 1 := by kernel_rfl
@[go_sem] theorem t101_agg : aggT Try.prog 101 = some false := by kernel_rfl
@[go_sem] theorem t102_size : sizeT Try.prog 102 = some 1 := by kernel_rfl
@[go_sem] theorem t102_agg : aggT Try.prog 102 = some false := by kernel_rfl
@[go_sem] theorem t103_size : sizeT Try.prog 103 = some 1 := by kernel_rfl
@[go_sem] theorem t103_agg : aggT Try.prog 103 = some false := by kernel_rfl
@[go_sem] theorem t104_size : sizeT Try.prog 104 = some 1 := by kernel_rfl
@[go_sem] theorem t104_agg : aggT Try.prog 104 = some false := by kernel_rfl
@[go_sem] theorem t105_size : sizeT Try.prog 105 = some 1 := by kernel_rfl
@[go_sem] theorem t105_agg : aggT Try.prog 105 = some false := by kernel_rfl
@[go_sem] theorem t106_size : sizeT Try.prog 106 = some 1 := by kernel_rfl
@[go_sem] theorem t106_agg : aggT Try.prog 106 = some false := by kernel_rfl
@[go_sem] theorem t107_size : sizeT Try.prog 107 = some 1 := by kernel_rfl
@[go_sem] theorem t107_agg : aggT Try.prog 107 = some false := by kernel_rfl
@[go_sem] theorem t108_size : sizeT Try.prog 108 = some 3 := by kernel_rfl
@[go_sem] theorem t108_bytes : bytesT Try.prog 108 = some 3 := by kernel_rfl
@[go_sem] theorem t108_agg : aggT Try.prog 108 = some true := by kernel_rfl
@[go_sem] theorem t108_zero : zeroT Try.prog 108 = some [.atom (.bool false), .atom (.bool false), .atom (.bool false)] := by kernel_rfl
@[go_sem] theorem t108_zsize : zsizeT Try.prog 108 = some 3 := by kernel_rfl
@[go_sem] theorem t108_arr : arrT Try.prog 108 = none := by kernel_rfl
@[go_sem] theorem t108_places : placesT Try.prog 108 = some [(0, 1), (1, 1), (2, 1)] := by kernel_rfl
@[go_sem] theorem t108_eqf : eqFields Try.prog 108 = some [(4, 0), (4, 1), (4, 2)] := by kernel_rfl
@[go_sem] theorem t108_guard : guardT Try.prog 108 = false := by kernel_rfl
@[go_sem] theorem t108_f0 : fieldT Try.prog 108 0 = some (4, 0) := by kernel_rfl
@[go_sem] theorem t108_f1 : fieldT Try.prog 108 1 = some (4, 1) := by kernel_rfl
@[go_sem] theorem t108_f2 : fieldT Try.prog 108 2 = some (4, 2) := by kernel_rfl
@[go_sem] theorem t109_size : sizeT Try.prog 109 = some 3 := by kernel_rfl
@[go_sem] theorem t109_bytes : bytesT Try.prog 109 = some 3 := by kernel_rfl
@[go_sem] theorem t109_agg : aggT Try.prog 109 = some true := by kernel_rfl
@[go_sem] theorem t109_zero : zeroT Try.prog 109 = some [.atom (.bool false), .atom (.bool false), .atom (.bool false)] := by kernel_rfl
@[go_sem] theorem t109_zsize : zsizeT Try.prog 109 = some 3 := by kernel_rfl
@[go_sem] theorem t109_arr : arrT Try.prog 109 = none := by kernel_rfl
@[go_sem] theorem t109_places : placesT Try.prog 109 = some [(0, 1), (1, 1), (2, 1)] := by kernel_rfl
@[go_sem] theorem t109_eqf : eqFields Try.prog 109 = some [(4, 0), (4, 1), (4, 2)] := by kernel_rfl
@[go_sem] theorem t109_guard : guardT Try.prog 109 = false := by kernel_rfl
@[go_sem] theorem t109_f0 : fieldT Try.prog 109 0 = some (4, 0) := by kernel_rfl
@[go_sem] theorem t109_f1 : fieldT Try.prog 109 1 = some (4, 1) := by kernel_rfl
@[go_sem] theorem t109_f2 : fieldT Try.prog 109 2 = some (4, 2) := by kernel_rfl
@[go_sem] theorem t110_size : sizeT Try.prog 110 = some 1 := by kernel_rfl
@[go_sem] theorem t110_agg : aggT Try.prog 110 = some false := by kernel_rfl
@[go_sem] theorem t111_size : sizeT Try.prog 111 = some 1 := by kernel_rfl
@[go_sem] theorem t111_agg : aggT Try.prog 111 = some false := by kernel_rfl
@[go_sem] theorem t112_size : sizeT Try.prog 112 = some 1 := by kernel_rfl
@[go_sem] theorem t112_agg : aggT Try.prog 112 = some false := by kernel_rfl
@[go_sem] theorem t113_size : sizeT Try.prog 113 = some 1 := by kernel_rfl
@[go_sem] theorem t113_agg : aggT Try.prog 113 = some false := by kernel_rfl
@[go_sem] theorem t114_size : sizeT Try.prog 114 = some 1 := by kernel_rfl
@[go_sem] theorem t114_agg : aggT Try.prog 114 = some false := by kernel_rfl
@[go_sem] theorem t115_size : sizeT Try.prog 115 = some 1 := by kernel_rfl
@[go_sem] theorem t115_agg : aggT Try.prog 115 = some false := by kernel_rfl
@[go_sem] theorem t116_size : sizeT Try.prog 116 = some 1 := by kernel_rfl
@[go_sem] theorem t116_agg : aggT Try.prog 116 = some false := by kernel_rfl
@[go_sem] theorem t117_size : sizeT Try.prog 117 = some 1 := by kernel_rfl
@[go_sem] theorem t117_agg : aggT Try.prog 117 = some false := by kernel_rfl
@[go_sem] theorem t118_size : sizeT Try.prog 118 = some 1 := by kernel_rfl
@[go_sem] theorem t118_agg : aggT Try.prog 118 = some false := by kernel_rfl
@[go_sem] theorem t119_size : sizeT Try.prog 119 = some 6 := by kernel_rfl
@[go_sem] theorem t119_bytes : bytesT Try.prog 119 = some 64 := by kernel_rfl
@[go_sem] theorem t119_agg : aggT Try.prog 119 = some true := by kernel_rfl
@[go_sem] theorem t119_zero : zeroT Try.prog 119 = some [.atom (.int .i64 0), .slice .full [], .atom (.int .u64 0), .atom (.int .u64 0), .atom (.int .u64 0), .atom (.int .i64 0)] := by kernel_rfl
@[go_sem] theorem t119_zsize : zsizeT Try.prog 119 = some 6 := by kernel_rfl
@[go_sem] theorem t119_arr : arrT Try.prog 119 = none := by kernel_rfl
@[go_sem] theorem t119_places : placesT Try.prog 119 = some [(0, 1), (1, 1), (2, 1), (3, 1), (4, 1), (5, 1)] := by kernel_rfl
@[go_sem] theorem t119_f0 : fieldT Try.prog 119 0 = some (3, 0) := by kernel_rfl
@[go_sem] theorem t119_f1 : fieldT Try.prog 119 1 = some (33, 1) := by kernel_rfl
@[go_sem] theorem t119_f2 : fieldT Try.prog 119 2 = some (32, 2) := by kernel_rfl
@[go_sem] theorem t119_f3 : fieldT Try.prog 119 3 = some (32, 3) := by kernel_rfl
@[go_sem] theorem t119_f4 : fieldT Try.prog 119 4 = some (32, 4) := by kernel_rfl
@[go_sem] theorem t119_f5 : fieldT Try.prog 119 5 = some (3, 5) := by kernel_rfl
@[go_sem] theorem t120_size : sizeT Try.prog 120 = some 6 := by kernel_rfl
@[go_sem] theorem t120_bytes : bytesT Try.prog 120 = some 64 := by kernel_rfl
@[go_sem] theorem t120_agg : aggT Try.prog 120 = some true := by kernel_rfl
@[go_sem] theorem t120_zero : zeroT Try.prog 120 = some [.atom (.int .i64 0), .slice .full [], .atom (.int .u64 0), .atom (.int .u64 0), .atom (.int .u64 0), .atom (.int .i64 0)] := by kernel_rfl
@[go_sem] theorem t120_zsize : zsizeT Try.prog 120 = some 6 := by kernel_rfl
@[go_sem] theorem t120_arr : arrT Try.prog 120 = none := by kernel_rfl
@[go_sem] theorem t120_places : placesT Try.prog 120 = some [(0, 1), (1, 1), (2, 1), (3, 1), (4, 1), (5, 1)] := by kernel_rfl
@[go_sem] theorem t120_f0 : fieldT Try.prog 120 0 = some (3, 0) := by kernel_rfl
@[go_sem] theorem t120_f1 : fieldT Try.prog 120 1 = some (33, 1) := by kernel_rfl
@[go_sem] theorem t120_f2 : fieldT Try.prog 120 2 = some (32, 2) := by kernel_rfl
@[go_sem] theorem t120_f3 : fieldT Try.prog 120 3 = some (32, 3) := by kernel_rfl
@[go_sem] theorem t120_f4 : fieldT Try.prog 120 4 = some (32, 4) := by kernel_rfl
@[go_sem] theorem t120_f5 : fieldT Try.prog 120 5 = some (3, 5) := by kernel_rfl
@[go_sem] theorem t121_size : sizeT Try.prog 121 = some 17 := by kernel_rfl
@[go_sem] theorem t121_bytes : bytesT Try.prog 121 = some 152 := by kernel_rfl
@[go_sem] theorem t121_agg : aggT Try.prog 121 = some true := by kernel_rfl
@[go_sem] theorem t121_zero : zeroT Try.prog 121 = some [.atom (.int .i64 0), .atom (.int .i64 0), .atom (.int .i64 0), .atom (.int .i64 0), .atom (.int .i64 0), .atom (.int .i64 0), .atom (.bool false), .atom (.int .i64 0), .atom (.int .i64 0), .atom (.int .i64 0), .atom (.int .i64 0), .atom (.bool false), .atom (.int .i64 0), .slice .full [], .atom (.int .u64 0), .atom (.int .u64 0), .atom (.int .i64 0)] := by kernel_rfl
@[go_sem] theorem t121_zsize : zsizeT Try.prog 121 = some 17 := by kernel_rfl
@[go_sem] theorem t121_arr : arrT Try.prog 121 = none := by kernel_rfl
@[go_sem] theorem t121_places : placesT Try.prog 121 = some [(0, 14), (14, 1), (15, 1), (16, 1)] := by kernel_rfl
@[go_sem] theorem t121_f0 : fieldT Try.prog 121 0 = some (42, 0) := by kernel_rfl
@[go_sem] theorem t121_f1 : fieldT Try.prog 121 1 = some (32, 14) := by kernel_rfl
@[go_sem] theorem t121_f2 : fieldT Try.prog 121 2 = some (32, 15) := by kernel_rfl
@[go_sem] theorem t121_f3 : fieldT Try.prog 121 3 = some (3, 16) := by kernel_rfl
@[go_sem] theorem t122_size : sizeT Try.prog 122 = some 17 := by kernel_rfl
@[go_sem] theorem t122_bytes : bytesT Try.prog 122 = some 152 := by kernel_rfl
@[go_sem] theorem t122_agg : aggT Try.prog 122 = some true := by kernel_rfl
@[go_sem] theorem t122_zero : zeroT Try.prog 122 = some [.atom (.int .i64 0), .atom (.int .i64 0), .atom (.int .i64 0), .atom (.int .i64 0), .atom (.int .i64 0), .atom (.int .i64 0), .atom (.bool false), .atom (.int .i64 0), .atom (.int .i64 0), .atom (.int .i64 0), .atom (.int .i64 0), .atom (.bool false), .atom (.int .i64 0), .slice .full [], .atom (.int .u64 0), .atom (.int .u64 0), .atom (.int .i64 0)] := by kernel_rfl
@[go_sem] theorem t122_zsize : zsizeT Try.prog 122 = some 17 := by kernel_rfl
@[go_sem] theorem t122_arr : arrT Try.prog 122 = none := by kernel_rfl
@[go_sem] theorem t122_places : placesT Try.prog 122 = some [(0, 14), (14, 1), (15, 1), (16, 1)] := by kernel_rfl
@[go_sem] theorem t122_f0 : fieldT Try.prog 122 0 = some (42, 0) := by kernel_rfl
@[go_sem] theorem t122_f1 : fieldT Try.prog 122 1 = some (32, 14) := by kernel_rfl
@[go_sem] theorem t122_f2 : fieldT Try.prog 122 2 = some (32, 15) := by kernel_rfl
@[go_sem] theorem t122_f3 : fieldT Try.prog 122 3 = some (3, 16) := by kernel_rfl
@[go_sem] theorem t123_size : sizeT Try.prog 123 = some 1 := by kernel_rfl
@[go_sem] theorem t123_agg : aggT Try.prog 123 = some false := by kernel_rfl
@[go_sem] theorem t124_size : sizeT Try.prog 124 = some 1 := by kernel_rfl
@[go_sem] theorem t124_agg : aggT Try.prog 124 = some false := by kernel_rfl
@[go_sem] theorem t125_size : sizeT Try.prog 125 = some 1 := by kernel_rfl
@[go_sem] theorem t125_agg : aggT Try.prog 125 = some false := by kernel_rfl
@[go_sem] theorem t126_size : sizeT Try.prog 126 = some 17 := by kernel_rfl
@[go_sem] theorem t126_bytes : bytesT Try.prog 126 = some 152 := by kernel_rfl
@[go_sem] theorem t126_agg : aggT Try.prog 126 = some true := by kernel_rfl
@[go_sem] theorem t126_zero : zeroT Try.prog 126 = some [.atom (.int .i64 0), .atom (.int .i64 0), .atom (.int .i64 0), .atom (.int .i64 0), .atom (.int .i64 0), .atom (.int .i64 0), .atom (.bool false), .atom (.int .i64 0), .atom (.int .i64 0), .atom (.int .i64 0), .atom (.int .i64 0), .atom (.bool false), .atom (.int .i64 0), .slice .full [], .atom (.int .u64 0), .atom (.int .u64 0), .atom (.int .i64 0)] := by kernel_rfl
@[go_sem] theorem t126_zsize : zsizeT Try.prog 126 = some 17 := by kernel_rfl
@[go_sem] theorem t126_arr : arrT Try.prog 126 = none := by kernel_rfl
@[go_sem] theorem t126_places : placesT Try.prog 126 = some [(0, 14), (14, 1), (15, 1), (16, 1)] := by kernel_rfl
@[go_sem] theorem t126_f0 : fieldT Try.prog 126 0 = some (42, 0) := by kernel_rfl
@[go_sem] theorem t126_f1 : fieldT Try.prog 126 1 = some (32, 14) := by kernel_rfl
@[go_sem] theorem t126_f2 : fieldT Try.prog 126 2 = some (32, 15) := by kernel_rfl
@[go_sem] theorem t126_f3 : fieldT Try.prog 126 3 = some (3, 16) := by kernel_rfl
@[go_sem] theorem t127_size : sizeT Try.prog 127 = some 6 := by kernel_rfl
@[go_sem] theorem t127_bytes : bytesT Try.prog 127 = some 64 := by kernel_rfl
@[go_sem] theorem t127_agg : aggT Try.prog 127 = some true := by kernel_rfl
@[go_sem] theorem t127_zero : zeroT Try.prog 127 = some [.atom (.int .i64 0), .slice .full [], .atom (.int .u64 0), .atom (.int .u64 0), .atom (.int .u64 0), .atom (.int .i64 0)] := by kernel_rfl
@[go_sem] theorem t127_zsize : zsizeT Try.prog 127 = some 6 := by kernel_rfl
@[go_sem] theorem t127_arr : arrT Try.prog 127 = none := by kernel_rfl
@[go_sem] theorem t127_places : placesT Try.prog 127 = some [(0, 1), (1, 1), (2, 1), (3, 1), (4, 1), (5, 1)] := by kernel_rfl
@[go_sem] theorem t127_f0 : fieldT Try.prog 127 0 = some (3, 0) := by kernel_rfl
@[go_sem] theorem t127_f1 : fieldT Try.prog 127 1 = some (33, 1) := by kernel_rfl
@[go_sem] theorem t127_f2 : fieldT Try.prog 127 2 = some (32, 2) := by kernel_rfl
@[go_sem] theorem t127_f3 : fieldT Try.prog 127 3 = some (32, 3) := by kernel_rfl
@[go_sem] theorem t127_f4 : fieldT Try.prog 127 4 = some (32, 4) := by kernel_rfl
@[go_sem] theorem t127_f5 : fieldT Try.prog 127 5 = some (3, 5) := by kernel_rfl
@[go_sem] theorem t128_size : sizeT Try.prog 128 = some 1 := by kernel_rfl
@[go_sem] theorem t128_agg : aggT Try.prog 128 = some false := by kernel_rfl
@[go_sem] theorem t129_size : sizeT Try.prog 129 = some 3 := by kernel_rfl
@[go_sem] theorem t129_bytes : bytesT Try.prog 129 = some 24 := by kernel_rfl
@[go_sem] theorem t129_agg : aggT Try.prog 129 = some true := by kernel_rfl
@[go_sem] theorem t129_zero : zeroT Try.prog 129 = some [.atom (.int .i64 0), .atom (.int .u64 0), .atom (.int .u64 0)] := by kernel_rfl
@[go_sem] theorem t129_zsize : zsizeT Try.prog 129 = some 3 := by kernel_rfl
@[go_sem] theorem t129_arr : arrT Try.prog 129 = none := by kernel_rfl
@[go_sem] theorem t129_places : placesT Try.prog 129 = some [(0, 1), (1, 1), (2, 1)] := by kernel_rfl
@[go_sem] theorem t129_eqf : eqFields Try.prog 129 = some [(3, 0), (32, 1), (32, 2)] := by kernel_rfl
@[go_sem] theorem t129_guard : guardT Try.prog 129 = false := by kernel_rfl
@[go_sem] theorem t129_f0 : fieldT Try.prog 129 0 = some (3, 0) := by kernel_rfl
@[go_sem] theorem t129_f1 : fieldT Try.prog 129 1 = some (32, 1) := by kernel_rfl
@[go_sem] theorem t129_f2 : fieldT Try.prog 129 2 = some (32, 2) := by kernel_rfl
@[go_sem] theorem t130_size : sizeT Try.prog 130 = some 3 := by kernel_rfl
@[go_sem] theorem t130_bytes : bytesT Try.prog 130 = some 24 := by kernel_rfl
@[go_sem] theorem t130_agg : aggT Try.prog 130 = some true := by kernel_rfl
@[go_sem] theorem t130_zero : zeroT Try.prog 130 = some [.atom (.int .i64 0), .atom (.int .u64 0), .atom (.int .u64 0)] := by kernel_rfl
@[go_sem] theorem t130_zsize : zsizeT Try.prog 130 = some 3 := by kernel_rfl
@[go_sem] theorem t130_arr : arrT Try.prog 130 = none := by kernel_rfl
@[go_sem] theorem t130_places : placesT Try.prog 130 = some [(0, 1), (1, 1), (2, 1)] := by kernel_rfl
@[go_sem] theorem t130_eqf : eqFields Try.prog 130 = some [(3, 0), (32, 1), (32, 2)] := by kernel_rfl
@[go_sem] theorem t130_guard : guardT Try.prog 130 = false := by kernel_rfl
@[go_sem] theorem t130_f0 : fieldT Try.prog 130 0 = some (3, 0) := by kernel_rfl
@[go_sem] theorem t130_f1 : fieldT Try.prog 130 1 = some (32, 1) := by kernel_rfl
@[go_sem] theorem t130_f2 : fieldT Try.prog 130 2 = some (32, 2) := by kernel_rfl
@[go_sem] theorem t131_size : sizeT Try.prog 131 = some 1 := by kernel_rfl
@[go_sem] theorem t131_agg : aggT Try.prog 131 = some false := by kernel_rfl
@[go_sem] theorem t132_size : sizeT Try.prog 132 = some 1 := by kernel_rfl
@[go_sem] theorem t132_agg : aggT Try.prog 132 = some false := by kernel_rfl
@[go_sem] theorem t133_size : sizeT Try.prog 133 = some 1 := by kernel_rfl
@[go_sem] theorem t133_agg : aggT Try.prog 133 = some false := by kernel_rfl
@[go_sem] theorem t134_size : sizeT Try.prog 134 = some 1 := by kernel_rfl
@[go_sem] theorem t134_agg : aggT Try.prog 134 = some false := by kernel_rfl
@[go_sem] theorem t135_size : sizeT Try.prog 135 = some 1 := by kernel_rfl
@[go_sem] theorem t135_agg : aggT Try.prog 135 = some false := by kernel_rfl
@[go_sem] theorem t136_size : sizeT Try.prog 136 = some 1 := by kernel_rfl
@[go_sem] theorem t136_agg : aggT Try.prog 136 = some false := by kernel_rfl
@[go_sem] theorem t137_size : sizeT Try.prog 137 = some 1 := by kernel_rfl
@[go_sem] theorem t137_agg : aggT Try.prog 137 = some false := by kernel_rfl
@[go_sem] theorem t138_size : sizeT Try.prog 138 = some 1 := by kernel_rfl
@[go_sem] theorem t138_agg : aggT Try.prog 138 = some false := by kernel_rfl
@[go_sem] theorem t139_size : sizeT Try.prog 139 = some 1 := by kernel_rfl
@[go_sem] theorem t139_agg : aggT Try.prog 139 = some false := by kernel_rfl
@[go_sem] theorem t140_size : sizeT Try.prog 140 = some 1 := by kernel_rfl
@[go_sem] theorem t140_agg : aggT Try.prog 140 = some false := by kernel_rfl
@[go_sem] theorem t141_size : sizeT Try.prog 141 = some 1 := by kernel_rfl
@[go_sem] theorem t141_agg : aggT Try.prog 141 = some false := by kernel_rfl
@[go_sem] theorem t142_size : sizeT Try.prog 142 = some 1 := by kernel_rfl
@[go_sem] theorem t142_agg : aggT Try.prog 142 = some false := by kernel_rfl
@[go_sem] theorem t143_size : sizeT Try.prog 143 = some 1 := by kernel_rfl
@[go_sem] theorem t143_agg : aggT Try.prog 143 = some false := by kernel_rfl
@[go_sem] theorem t144_size : sizeT Try.prog 144 = some 1 := by kernel_rfl
@[go_sem] theorem t144_agg : aggT Try.prog 144 = some false := by kernel_rfl
@[go_sem] theorem t145_size : sizeT Try.prog 145 = some 1 := by kernel_rfl
@[go_sem] theorem t145_bytes : bytesT Try.prog 145 = some 24 := by kernel_rfl
@[go_sem] theorem t145_agg : aggT Try.prog 145 = some false := by kernel_rfl
@[go_sem] theorem t145_elem : elemT Try.prog 145 = some 171 := by kernel_rfl
@[go_sem] theorem t145_u : Try.prog.underlying 145 = some (.slice 171) := by kernel_rfl
@[go_sem] theorem t145_arr : arrT Try.prog 145 = none := by kernel_rfl
@[go_sem] theorem t145_places : placesT Try.prog 145 = none := by kernel_rfl
@[go_sem] theorem t145_zero : zeroT Try.prog 145 = some [.slice .full []] := by kernel_rfl
@[go_sem] theorem t145_zsize : zsizeT Try.prog 145 = some 1 := by kernel_rfl
@[go_sem] theorem t146_size : sizeT Try.prog 146 = some 1 := by kernel_rfl
@[go_sem] theorem t146_agg : aggT Try.prog 146 = some false := by kernel_rfl
@[go_sem] theorem t147_size : sizeT Try.prog 147 = some 1 := by kernel_rfl
@[go_sem] theorem t147_agg : aggT Try.prog 147 = some false := by kernel_rfl
@[go_sem] theorem t148_size : sizeT Try.prog 148 = some 1 := by kernel_rfl
@[go_sem] theorem t148_agg : aggT Try.prog 148 = some false := by kernel_rfl
@[go_sem] theorem t149_size : sizeT Try.prog 149 = some 1 := by kernel_rfl
@[go_sem] theorem t149_agg : aggT Try.prog 149 = some false := by kernel_rfl
@[go_sem] theorem t150_size : sizeT Try.prog 150 = some 1 := by kernel_rfl
@[go_sem] theorem t150_agg : aggT Try.prog 150 = some false := by kernel_rfl
@[go_sem] theorem t151_size : sizeT Try.prog 151 = some 1 := by kernel_rfl
@[go_sem] theorem t151_agg : aggT Try.prog 151 = some false := by kernel_rfl
@[go_sem] theorem t152_size : sizeT Try.prog 152 = some 1 := by kernel_rfl
@[go_sem] theorem t152_bytes : bytesT Try.prog 152 = some 8 := by kernel_rfl
@[go_sem] theorem t152_agg : aggT Try.prog 152 = some false := by kernel_rfl
@[go_sem] theorem t152_zero : zeroT Try.prog 152 = some [.atom (.pointer none)] := by kernel_rfl
@[go_sem] theorem t152_zsize : zsizeT Try.prog 152 = some 1 := by kernel_rfl
@[go_sem] theorem t153_size : sizeT Try.prog 153 = some 1 := by kernel_rfl
@[go_sem] theorem t153_agg : aggT Try.prog 153 = some false := by kernel_rfl
@[go_sem] theorem t154_size : sizeT Try.prog 154 = some 4 := by kernel_rfl
@[go_sem] theorem t154_bytes : bytesT Try.prog 154 = some 80 := by kernel_rfl
@[go_sem] theorem t154_agg : aggT Try.prog 154 = some true := by kernel_rfl
@[go_sem] theorem t154_zero : zeroT Try.prog 154 = some [.atom (.int .i64 0), .slice .full [], .slice .full [], .slice .full []] := by kernel_rfl
@[go_sem] theorem t154_zsize : zsizeT Try.prog 154 = some 4 := by kernel_rfl
@[go_sem] theorem t154_arr : arrT Try.prog 154 = none := by kernel_rfl
@[go_sem] theorem t154_places : placesT Try.prog 154 = some [(0, 4)] := by kernel_rfl
@[go_sem] theorem t154_f0 : fieldT Try.prog 154 0 = some (81, 0) := by kernel_rfl
@[go_sem] theorem t155_size : sizeT Try.prog 155 = some 4 := by kernel_rfl
@[go_sem] theorem t155_bytes : bytesT Try.prog 155 = some 80 := by kernel_rfl
@[go_sem] theorem t155_agg : aggT Try.prog 155 = some true := by kernel_rfl
@[go_sem] theorem t155_zero : zeroT Try.prog 155 = some [.atom (.int .i64 0), .slice .full [], .slice .full [], .slice .full []] := by kernel_rfl
@[go_sem] theorem t155_zsize : zsizeT Try.prog 155 = some 4 := by kernel_rfl
@[go_sem] theorem t155_arr : arrT Try.prog 155 = none := by kernel_rfl
@[go_sem] theorem t155_places : placesT Try.prog 155 = some [(0, 4)] := by kernel_rfl
@[go_sem] theorem t155_f0 : fieldT Try.prog 155 0 = some (81, 0) := by kernel_rfl
@[go_sem] theorem t156_size : sizeT Try.prog 156 = some 1 := by kernel_rfl
@[go_sem] theorem t156_agg : aggT Try.prog 156 = some false := by kernel_rfl
@[go_sem] theorem t157_size : sizeT Try.prog 157 = some 1 := by kernel_rfl
@[go_sem] theorem t157_agg : aggT Try.prog 157 = some false := by kernel_rfl
@[go_sem] theorem t158_size : sizeT Try.prog 158 = some 1 := by kernel_rfl
@[go_sem] theorem t158_agg : aggT Try.prog 158 = some false := by kernel_rfl
@[go_sem] theorem t159_size : sizeT Try.prog 159 = some 1 := by kernel_rfl
@[go_sem] theorem t159_agg : aggT Try.prog 159 = some false := by kernel_rfl
@[go_sem] theorem t160_size : sizeT Try.prog 160 = some 1 := by kernel_rfl
@[go_sem] theorem t160_agg : aggT Try.prog 160 = some false := by kernel_rfl
@[go_sem] theorem t161_size : sizeT Try.prog 161 = some 1 := by kernel_rfl
@[go_sem] theorem t161_agg : aggT Try.prog 161 = some false := by kernel_rfl
@[go_sem] theorem t162_size : sizeT Try.prog 162 = some 1 := by kernel_rfl
@[go_sem] theorem t162_agg : aggT Try.prog 162 = some false := by kernel_rfl
@[go_sem] theorem t163_size : sizeT Try.prog 163 = some 1 := by kernel_rfl
@[go_sem] theorem t163_agg : aggT Try.prog 163 = some false := by kernel_rfl
@[go_sem] theorem t164_size : sizeT Try.prog 164 = some 1 := by kernel_rfl
@[go_sem] theorem t164_bytes : bytesT Try.prog 164 = some 8 := by kernel_rfl
@[go_sem] theorem t164_agg : aggT Try.prog 164 = some false := by kernel_rfl
@[go_sem] theorem t164_zero : zeroT Try.prog 164 = some [.atom (.pointer none)] := by kernel_rfl
@[go_sem] theorem t164_zsize : zsizeT Try.prog 164 = some 1 := by kernel_rfl
@[go_sem] theorem t165_size : sizeT Try.prog 165 = some 1 := by kernel_rfl
@[go_sem] theorem t165_agg : aggT Try.prog 165 = some false := by kernel_rfl
@[go_sem] theorem t166_size : sizeT Try.prog 166 = some 1 := by kernel_rfl
@[go_sem] theorem t166_agg : aggT Try.prog 166 = some false := by kernel_rfl
@[go_sem] theorem t167_size : sizeT Try.prog 167 = some 1 := by kernel_rfl
@[go_sem] theorem t167_agg : aggT Try.prog 167 = some false := by kernel_rfl
@[go_sem] theorem t168_size : sizeT Try.prog 168 = some 1 := by kernel_rfl
@[go_sem] theorem t168_agg : aggT Try.prog 168 = some false := by kernel_rfl
@[go_sem] theorem t169_size : sizeT Try.prog 169 = some 1 := by kernel_rfl
@[go_sem] theorem t169_agg : aggT Try.prog 169 = some false := by kernel_rfl
@[go_sem] theorem t170_size : sizeT Try.prog 170 = some 1 := by kernel_rfl
@[go_sem] theorem t170_agg : aggT Try.prog 170 = some false := by kernel_rfl
@[go_sem] theorem t171_size : sizeT Try.prog 171 = some 10 := by kernel_rfl
@[go_sem] theorem t171_bytes : bytesT Try.prog 171 = some 80 := by kernel_rfl
@[go_sem] theorem t171_agg : aggT Try.prog 171 = some true := by kernel_rfl
@[go_sem] theorem t171_eqf : eqFields Try.prog 171 = none := by kernel_rfl
@[go_sem] theorem t171_guard : guardT Try.prog 171 = false := by kernel_rfl
@[go_sem] theorem t171_arr : arrT Try.prog 171 = some (2, 40) := by kernel_rfl
@[go_sem] theorem t171_places : placesT Try.prog 171 = none := by kernel_rfl
@[go_sem] theorem t171_u : Try.prog.underlying 171 = some (.array 2 40) := by kernel_rfl
@[go_sem] theorem t171_elem : elemT Try.prog 171 = none := by kernel_rfl
@[go_sem] theorem t171_zero : zeroT Try.prog 171 = some [.atom (.int .i64 0), .atom (.int .i64 0), .atom (.int .i64 0), .atom (.bool false), .atom (.int .i64 0), .atom (.int .i64 0), .atom (.int .i64 0), .atom (.int .i64 0), .atom (.bool false), .atom (.int .i64 0)] := by kernel_rfl
@[go_sem] theorem t171_zsize : zsizeT Try.prog 171 = some 10 := by kernel_rfl
@[go_sem] theorem t172_size : sizeT Try.prog 172 = some 1 := by kernel_rfl
@[go_sem] theorem t172_agg : aggT Try.prog 172 = some false := by kernel_rfl
@[go_sem] theorem t173_size : sizeT Try.prog 173 = some 1 := by kernel_rfl
@[go_sem] theorem t173_agg : aggT Try.prog 173 = some false := by kernel_rfl
@[go_sem] theorem t174_size : sizeT Try.prog 174 = some 1 := by kernel_rfl
@[go_sem] theorem t174_agg : aggT Try.prog 174 = some false := by kernel_rfl
@[go_sem] theorem t176_size : sizeT Try.prog 176 = some 1 := by kernel_rfl
@[go_sem] theorem t176_agg : aggT Try.prog 176 = some false := by kernel_rfl
@[go_sem] theorem t177_size : sizeT Try.prog 177 = some 1 := by kernel_rfl
@[go_sem] theorem t177_agg : aggT Try.prog 177 = some false := by kernel_rfl
@[go_sem] theorem t178_size : sizeT Try.prog 178 = some 1 := by kernel_rfl
@[go_sem] theorem t178_agg : aggT Try.prog 178 = some false := by kernel_rfl
@[go_sem] theorem t179_size : sizeT Try.prog 179 = some 1 := by kernel_rfl
@[go_sem] theorem t179_agg : aggT Try.prog 179 = some false := by kernel_rfl
@[go_sem] theorem t180_size : sizeT Try.prog 180 = some 1 := by kernel_rfl
@[go_sem] theorem t180_agg : aggT Try.prog 180 = some false := by kernel_rfl
@[go_sem] theorem t181_size : sizeT Try.prog 181 = some 1 := by kernel_rfl
@[go_sem] theorem t181_agg : aggT Try.prog 181 = some false := by kernel_rfl
@[go_sem] theorem t183_size : sizeT Try.prog 183 = some 1 := by kernel_rfl
@[go_sem] theorem t183_agg : aggT Try.prog 183 = some false := by kernel_rfl
@[go_sem] theorem t184_size : sizeT Try.prog 184 = some 1 := by kernel_rfl
@[go_sem] theorem t184_agg : aggT Try.prog 184 = some false := by kernel_rfl
@[go_sem] theorem t185_size : sizeT Try.prog 185 = some 1 := by kernel_rfl
@[go_sem] theorem t185_agg : aggT Try.prog 185 = some false := by kernel_rfl
@[go_sem] theorem t186_size : sizeT Try.prog 186 = some 1 := by kernel_rfl
@[go_sem] theorem t186_agg : aggT Try.prog 186 = some false := by kernel_rfl
@[go_sem] theorem t187_size : sizeT Try.prog 187 = some 1 := by kernel_rfl
@[go_sem] theorem t187_agg : aggT Try.prog 187 = some false := by kernel_rfl
@[go_sem] theorem t188_size : sizeT Try.prog 188 = some 1 := by kernel_rfl
@[go_sem] theorem t188_agg : aggT Try.prog 188 = some false := by kernel_rfl
@[go_sem] theorem t189_size : sizeT Try.prog 189 = some 1 := by kernel_rfl
@[go_sem] theorem t189_agg : aggT Try.prog 189 = some false := by kernel_rfl
@[go_sem] theorem t190_size : sizeT Try.prog 190 = some 1 := by kernel_rfl
@[go_sem] theorem t190_agg : aggT Try.prog 190 = some false := by kernel_rfl
@[go_sem] theorem t191_size : sizeT Try.prog 191 = some 1 := by kernel_rfl
@[go_sem] theorem t191_agg : aggT Try.prog 191 = some false := by kernel_rfl
@[go_sem] theorem t192_size : sizeT Try.prog 192 = some 1 := by kernel_rfl
@[go_sem] theorem t192_bytes : bytesT Try.prog 192 = some 8 := by kernel_rfl
@[go_sem] theorem t192_agg : aggT Try.prog 192 = some false := by kernel_rfl
@[go_sem] theorem t192_u : Try.prog.underlying 192 = some (.int .u64) := by kernel_rfl
@[go_sem] theorem t192_zero : zeroT Try.prog 192 = some [.atom (.int .u64 0)] := by kernel_rfl
@[go_sem] theorem t192_zsize : zsizeT Try.prog 192 = some 1 := by kernel_rfl
@[go_sem] theorem t193_size : sizeT Try.prog 193 = some 1 := by kernel_rfl
@[go_sem] theorem t193_agg : aggT Try.prog 193 = some false := by kernel_rfl
@[go_sem] theorem t194_size : sizeT Try.prog 194 = some 1 := by kernel_rfl
@[go_sem] theorem t194_agg : aggT Try.prog 194 = some false := by kernel_rfl
@[go_sem] theorem t195_size : sizeT Try.prog 195 = some 1 := by kernel_rfl
@[go_sem] theorem t195_agg : aggT Try.prog 195 = some false := by kernel_rfl
@[go_sem] theorem t196_size : sizeT Try.prog 196 = some 1 := by kernel_rfl
@[go_sem] theorem t196_agg : aggT Try.prog 196 = some false := by kernel_rfl
@[go_sem] theorem t197_size : sizeT Try.prog 197 = some 1 := by kernel_rfl
@[go_sem] theorem t197_agg : aggT Try.prog 197 = some false := by kernel_rfl
@[go_sem] theorem t198_size : sizeT Try.prog 198 = some 1 := by kernel_rfl
@[go_sem] theorem t198_bytes : bytesT Try.prog 198 = some 24 := by kernel_rfl
@[go_sem] theorem t198_agg : aggT Try.prog 198 = some false := by kernel_rfl
@[go_sem] theorem t198_elem : elemT Try.prog 198 = some 200 := by kernel_rfl
@[go_sem] theorem t198_u : Try.prog.underlying 198 = some (.slice 200) := by kernel_rfl
@[go_sem] theorem t198_arr : arrT Try.prog 198 = none := by kernel_rfl
@[go_sem] theorem t198_places : placesT Try.prog 198 = none := by kernel_rfl
@[go_sem] theorem t198_zero : zeroT Try.prog 198 = some [.slice .full []] := by kernel_rfl
@[go_sem] theorem t198_zsize : zsizeT Try.prog 198 = some 1 := by kernel_rfl
@[go_sem] theorem t199_size : sizeT Try.prog 199 = some 1 := by kernel_rfl
@[go_sem] theorem t199_agg : aggT Try.prog 199 = some false := by kernel_rfl
@[go_sem] theorem t200_size : sizeT Try.prog 200 = some 2 := by kernel_rfl
@[go_sem] theorem t200_bytes : bytesT Try.prog 200 = some 16 := by kernel_rfl
@[go_sem] theorem t200_agg : aggT Try.prog 200 = some true := by kernel_rfl
@[go_sem] theorem t200_eqf : eqFields Try.prog 200 = none := by kernel_rfl
@[go_sem] theorem t200_guard : guardT Try.prog 200 = false := by kernel_rfl
@[go_sem] theorem t200_arr : arrT Try.prog 200 = some (2, 3) := by kernel_rfl
@[go_sem] theorem t200_places : placesT Try.prog 200 = none := by kernel_rfl
@[go_sem] theorem t200_u : Try.prog.underlying 200 = some (.array 2 3) := by kernel_rfl
@[go_sem] theorem t200_elem : elemT Try.prog 200 = none := by kernel_rfl
@[go_sem] theorem t200_zero : zeroT Try.prog 200 = some [.atom (.int .i64 0), .atom (.int .i64 0)] := by kernel_rfl
@[go_sem] theorem t200_zsize : zsizeT Try.prog 200 = some 2 := by kernel_rfl
@[go_sem] theorem t201_size : sizeT Try.prog 201 = some 1 := by kernel_rfl
@[go_sem] theorem t201_agg : aggT Try.prog 201 = some false := by kernel_rfl
@[go_sem] theorem t202_size : sizeT Try.prog 202 = some 1 := by kernel_rfl
@[go_sem] theorem t202_agg : aggT Try.prog 202 = some false := by kernel_rfl
@[go_sem] theorem t203_size : sizeT Try.prog 203 = some 1 := by kernel_rfl
@[go_sem] theorem t203_agg : aggT Try.prog 203 = some false := by kernel_rfl
@[go_sem] theorem t204_size : sizeT Try.prog 204 = some 1 := by kernel_rfl
@[go_sem] theorem t204_agg : aggT Try.prog 204 = some false := by kernel_rfl
@[go_sem] theorem t205_size : sizeT Try.prog 205 = some 1 := by kernel_rfl
@[go_sem] theorem t205_agg : aggT Try.prog 205 = some false := by kernel_rfl
@[go_sem] theorem t206_size : sizeT Try.prog 206 = some 1 := by kernel_rfl
@[go_sem] theorem t206_agg : aggT Try.prog 206 = some false := by kernel_rfl
@[go_sem] theorem t207_size : sizeT Try.prog 207 = some 1 := by kernel_rfl
@[go_sem] theorem t207_agg : aggT Try.prog 207 = some false := by kernel_rfl
@[go_sem] theorem t208_size : sizeT Try.prog 208 = some 1 := by kernel_rfl
@[go_sem] theorem t208_agg : aggT Try.prog 208 = some false := by kernel_rfl
@[go_sem] theorem t209_size : sizeT Try.prog 209 = some 1 := by kernel_rfl
@[go_sem] theorem t209_agg : aggT Try.prog 209 = some false := by kernel_rfl
@[go_sem] theorem t210_size : sizeT Try.prog 210 = some 1 := by kernel_rfl
@[go_sem] theorem t210_agg : aggT Try.prog 210 = some false := by kernel_rfl
@[go_sem] theorem t211_size : sizeT Try.prog 211 = some 1 := by kernel_rfl
@[go_sem] theorem t211_agg : aggT Try.prog 211 = some false := by kernel_rfl
@[go_sem] theorem t217_size : sizeT Try.prog 217 = some 1 := by kernel_rfl
@[go_sem] theorem t217_agg : aggT Try.prog 217 = some false := by kernel_rfl
@[go_sem] theorem t218_size : sizeT Try.prog 218 = some 1 := by kernel_rfl
@[go_sem] theorem t218_bytes : bytesT Try.prog 218 = some 4 := by kernel_rfl
@[go_sem] theorem t218_agg : aggT Try.prog 218 = some false := by kernel_rfl
@[go_sem] theorem t218_u : Try.prog.underlying 218 = some (.int .u32) := by kernel_rfl
@[go_sem] theorem t218_zero : zeroT Try.prog 218 = some [.atom (.int .u32 0)] := by kernel_rfl
@[go_sem] theorem t218_zsize : zsizeT Try.prog 218 = some 1 := by kernel_rfl
@[go_sem] theorem t222_size : sizeT Try.prog 222 = some 1 := by kernel_rfl
@[go_sem] theorem t222_bytes : bytesT Try.prog 222 = some 8 := by kernel_rfl
@[go_sem] theorem t222_agg : aggT Try.prog 222 = some false := by kernel_rfl
@[go_sem] theorem t222_zero : zeroT Try.prog 222 = some [.atom (.pointer none)] := by kernel_rfl
@[go_sem] theorem t222_zsize : zsizeT Try.prog 222 = some 1 := by kernel_rfl
theorem fn_3 : Try.prog.funcs[3]? = some Try.f3 := by kernel_rfl
theorem ok_3 : okFn Try.f3 = true := by kernel_rfl
@[go_sem] theorem rp_3_6 : rp Try.prog 3 6 = (38, none) := by kernel_rfl
theorem fn_4 : Try.prog.funcs[4]? = some Try.f4 := by kernel_rfl
theorem ok_4 : okFn Try.f4 = true := by kernel_rfl
@[go_sem] theorem rp_4_8 : rp Try.prog 4 8 = (13, none) := by kernel_rfl
theorem fn_5 : Try.prog.funcs[5]? = some Try.f5 := by kernel_rfl
theorem ok_5 : okFn Try.f5 = true := by kernel_rfl
theorem fn_6 : Try.prog.funcs[6]? = some Try.f6 := by kernel_rfl
theorem ok_6 : okFn Try.f6 = true := by kernel_rfl
@[go_sem] theorem rp_6_3 : rp Try.prog 6 3 = (8, none) := by kernel_rfl
@[go_sem] theorem rp_6_4 : rp Try.prog 6 4 = (8, none) := by kernel_rfl
@[go_sem] theorem rp_6_5 : rp Try.prog 6 5 = (23, none) := by kernel_rfl
@[go_sem] theorem rp_6_13 : rp Try.prog 6 13 = (9, none) := by kernel_rfl
theorem fn_7 : Try.prog.funcs[7]? = some Try.f7 := by kernel_rfl
theorem ok_7 : okFn Try.f7 = true := by kernel_rfl
@[go_sem] theorem rp_7_10 : rp Try.prog 7 10 = (6, none) := by kernel_rfl
theorem fn_8 : Try.prog.funcs[8]? = some Try.f8 := by kernel_rfl
theorem ok_8 : okFn Try.f8 = true := by kernel_rfl
@[go_sem] theorem rp_8_4 : rp Try.prog 8 4 = (58, none) := by kernel_rfl
theorem fn_9 : Try.prog.funcs[9]? = some Try.f9 := by kernel_rfl
theorem ok_9 : okFn Try.f9 = true := by kernel_rfl
@[go_sem] theorem rp_9_4 : rp Try.prog 9 4 = (18, none) := by kernel_rfl
@[go_sem] theorem rp_9_6 : rp Try.prog 9 6 = (8, none) := by kernel_rfl
@[go_sem] theorem rp_9_8 : rp Try.prog 9 8 = (12, none) := by kernel_rfl
@[go_sem] theorem rp_9_9 : rp Try.prog 9 9 = (22, none) := by kernel_rfl
theorem fn_10 : Try.prog.funcs[10]? = some Try.f10 := by kernel_rfl
theorem ok_10 : okFn Try.f10 = true := by kernel_rfl
@[go_sem] theorem rp_10_10 : rp Try.prog 10 10 = (21, none) := by kernel_rfl
@[go_sem] theorem rp_10_12 : rp Try.prog 10 12 = (11, none) := by kernel_rfl
theorem fn_11 : Try.prog.funcs[11]? = some Try.f11 := by kernel_rfl
theorem fn_12 : Try.prog.funcs[12]? = some Try.f12 := by kernel_rfl
theorem ok_12 : okFn Try.f12 = true := by kernel_rfl
@[go_sem] theorem rp_12_6 : rp Try.prog 12 6 = (9, none) := by kernel_rfl
@[go_sem] theorem rp_12_7 : rp Try.prog 12 7 = (17, none) := by kernel_rfl
@[go_sem] theorem rp_12_9 : rp Try.prog 12 9 = (9, none) := by kernel_rfl
theorem fn_13 : Try.prog.funcs[13]? = some Try.f13 := by kernel_rfl
theorem ok_13 : okFn Try.f13 = true := by kernel_rfl
theorem fn_14 : Try.prog.funcs[14]? = some Try.f14 := by kernel_rfl
theorem ok_14 : okFn Try.f14 = true := by kernel_rfl
theorem fn_15 : Try.prog.funcs[15]? = some Try.f15 := by kernel_rfl
theorem ok_15 : okFn Try.f15 = true := by kernel_rfl
theorem fn_16 : Try.prog.funcs[16]? = some Try.f16 := by kernel_rfl
theorem ok_16 : okFn Try.f16 = true := by kernel_rfl
theorem fn_17 : Try.prog.funcs[17]? = some Try.f17 := by kernel_rfl
theorem ok_17 : okFn Try.f17 = true := by kernel_rfl
theorem fn_18 : Try.prog.funcs[18]? = some Try.f18 := by kernel_rfl
theorem ok_18 : okFn Try.f18 = true := by kernel_rfl
theorem fn_19 : Try.prog.funcs[19]? = some Try.f19 := by kernel_rfl
theorem ok_19 : okFn Try.f19 = true := by kernel_rfl
theorem fn_20 : Try.prog.funcs[20]? = some Try.f20 := by kernel_rfl
theorem ok_20 : okFn Try.f20 = true := by kernel_rfl
theorem fn_21 : Try.prog.funcs[21]? = some Try.f21 := by kernel_rfl
theorem ok_21 : okFn Try.f21 = true := by kernel_rfl
theorem fn_22 : Try.prog.funcs[22]? = some Try.f22 := by kernel_rfl
theorem ok_22 : okFn Try.f22 = true := by kernel_rfl
theorem fn_23 : Try.prog.funcs[23]? = some Try.f23 := by kernel_rfl
theorem ok_23 : okFn Try.f23 = true := by kernel_rfl
theorem fn_24 : Try.prog.funcs[24]? = some Try.f24 := by kernel_rfl
theorem ok_24 : okFn Try.f24 = true := by kernel_rfl
@[go_sem] theorem rp_24_7 : rp Try.prog 24 7 = (9, none) := by kernel_rfl
@[go_sem] theorem rp_24_14 : rp Try.prog 24 14 = (6, some (8, 10)) := by kernel_rfl
theorem fn_25 : Try.prog.funcs[25]? = some Try.f25 := by kernel_rfl
theorem ok_25 : okFn Try.f25 = true := by kernel_rfl
theorem fn_26 : Try.prog.funcs[26]? = some Try.f26 := by kernel_rfl
theorem ok_26 : okFn Try.f26 = true := by kernel_rfl
@[go_sem] theorem rp_26_6 : rp Try.prog 26 6 = (9, none) := by kernel_rfl
theorem fn_27 : Try.prog.funcs[27]? = some Try.f27 := by kernel_rfl
theorem ok_27 : okFn Try.f27 = true := by kernel_rfl
@[go_sem] theorem rp_27_6 : rp Try.prog 27 6 = (10, none) := by kernel_rfl
theorem fn_28 : Try.prog.funcs[28]? = some Try.f28 := by kernel_rfl
theorem ok_28 : okFn Try.f28 = true := by kernel_rfl
theorem fn_29 : Try.prog.funcs[29]? = some Try.f29 := by kernel_rfl
theorem ok_29 : okFn Try.f29 = true := by kernel_rfl
theorem fn_30 : Try.prog.funcs[30]? = some Try.f30 := by kernel_rfl
theorem ok_30 : okFn Try.f30 = true := by kernel_rfl
theorem fn_31 : Try.prog.funcs[31]? = some Try.f31 := by kernel_rfl
theorem ok_31 : okFn Try.f31 = true := by kernel_rfl
theorem fn_32 : Try.prog.funcs[32]? = some Try.f32 := by kernel_rfl
theorem ok_32 : okFn Try.f32 = true := by kernel_rfl
@[go_sem] theorem rp_32_2 : rp Try.prog 32 2 = (7, none) := by kernel_rfl
@[go_sem] theorem rp_32_3 : rp Try.prog 32 3 = (67, none) := by kernel_rfl
theorem fn_33 : Try.prog.funcs[33]? = some Try.f33 := by kernel_rfl
theorem ok_33 : okFn Try.f33 = true := by kernel_rfl
theorem fn_34 : Try.prog.funcs[34]? = some Try.f34 := by kernel_rfl
theorem ok_34 : okFn Try.f34 = true := by kernel_rfl
@[go_sem] theorem rp_34_14 : rp Try.prog 34 14 = (12, none) := by kernel_rfl
@[go_sem] theorem rp_34_19 : rp Try.prog 34 19 = (25, none) := by kernel_rfl
@[go_sem] theorem rp_34_28 : rp Try.prog 34 28 = (16, none) := by kernel_rfl
theorem fn_35 : Try.prog.funcs[35]? = some Try.f35 := by kernel_rfl
theorem fn_36 : Try.prog.funcs[36]? = some Try.f36 := by kernel_rfl
theorem ok_36 : okFn Try.f36 = true := by kernel_rfl
@[go_sem] theorem rp_36_5 : rp Try.prog 36 5 = (8, none) := by kernel_rfl
@[go_sem] theorem rp_36_9 : rp Try.prog 36 9 = (8, none) := by kernel_rfl
theorem fn_37 : Try.prog.funcs[37]? = some Try.f37 := by kernel_rfl
theorem ok_37 : okFn Try.f37 = true := by kernel_rfl
@[go_sem] theorem rp_37_13 : rp Try.prog 37 13 = (7, none) := by kernel_rfl
theorem fn_38 : Try.prog.funcs[38]? = some Try.f38 := by kernel_rfl
theorem fn_39 : Try.prog.funcs[39]? = some Try.f39 := by kernel_rfl
theorem ok_39 : okFn Try.f39 = true := by kernel_rfl
theorem fn_40 : Try.prog.funcs[40]? = some Try.f40 := by kernel_rfl
theorem ok_40 : okFn Try.f40 = true := by kernel_rfl
theorem fn_41 : Try.prog.funcs[41]? = some Try.f41 := by kernel_rfl
theorem fn_42 : Try.prog.funcs[42]? = some Try.f42 := by kernel_rfl
theorem ok_42 : okFn Try.f42 = true := by kernel_rfl
theorem fn_43 : Try.prog.funcs[43]? = some Try.f43 := by kernel_rfl
theorem ok_43 : okFn Try.f43 = true := by kernel_rfl
theorem fn_44 : Try.prog.funcs[44]? = some Try.f44 := by kernel_rfl
theorem ok_44 : okFn Try.f44 = true := by kernel_rfl
@[go_sem] theorem rp_44_2 : rp Try.prog 44 2 = (38, none) := by kernel_rfl
theorem fn_45 : Try.prog.funcs[45]? = some Try.f45 := by kernel_rfl
theorem ok_45 : okFn Try.f45 = true := by kernel_rfl
theorem fn_46 : Try.prog.funcs[46]? = some Try.f46 := by kernel_rfl
theorem ok_46 : okFn Try.f46 = true := by kernel_rfl
theorem fn_47 : Try.prog.funcs[47]? = some Try.f47 := by kernel_rfl
theorem ok_47 : okFn Try.f47 = true := by kernel_rfl
@[go_sem] theorem rp_47_4 : rp Try.prog 47 4 = (10, none) := by kernel_rfl
@[go_sem] theorem rp_47_6 : rp Try.prog 47 6 = (11, none) := by kernel_rfl
theorem fn_48 : Try.prog.funcs[48]? = some Try.f48 := by kernel_rfl
theorem ok_48 : okFn Try.f48 = true := by kernel_rfl
@[go_sem] theorem rp_48_3 : rp Try.prog 48 3 = (10, none) := by kernel_rfl
@[go_sem] theorem rp_48_5 : rp Try.prog 48 5 = (10, none) := by kernel_rfl
theorem fn_49 : Try.prog.funcs[49]? = some Try.f49 := by kernel_rfl
theorem ok_49 : okFn Try.f49 = true := by kernel_rfl
@[go_sem] theorem rp_49_3 : rp Try.prog 49 3 = (12, none) := by kernel_rfl
@[go_sem] theorem rp_49_4 : rp Try.prog 49 4 = (21, none) := by kernel_rfl
theorem fn_50 : Try.prog.funcs[50]? = some Try.f50 := by kernel_rfl
theorem ok_50 : okFn Try.f50 = true := by kernel_rfl
@[go_sem] theorem rp_50_3 : rp Try.prog 50 3 = (15, none) := by kernel_rfl
@[go_sem] theorem rp_50_4 : rp Try.prog 50 4 = (16, none) := by kernel_rfl
theorem fn_51 : Try.prog.funcs[51]? = some Try.f51 := by kernel_rfl
theorem ok_51 : okFn Try.f51 = true := by kernel_rfl
@[go_sem] theorem rp_51_6 : rp Try.prog 51 6 = (12, none) := by kernel_rfl
theorem fn_52 : Try.prog.funcs[52]? = some Try.f52 := by kernel_rfl
theorem ok_52 : okFn Try.f52 = true := by kernel_rfl
theorem fn_53 : Try.prog.funcs[53]? = some Try.f53 := by kernel_rfl
theorem ok_53 : okFn Try.f53 = true := by kernel_rfl
@[go_sem] theorem rp_53_5 : rp Try.prog 53 5 = (10, none) := by kernel_rfl
@[go_sem] theorem rp_53_7 : rp Try.prog 53 7 = (15, none) := by kernel_rfl
theorem fn_54 : Try.prog.funcs[54]? = some Try.f54 := by kernel_rfl
theorem ok_54 : okFn Try.f54 = true := by kernel_rfl
theorem fn_55 : Try.prog.funcs[55]? = some Try.f55 := by kernel_rfl
theorem ok_55 : okFn Try.f55 = true := by kernel_rfl
theorem fn_56 : Try.prog.funcs[56]? = some Try.f56 := by kernel_rfl
theorem ok_56 : okFn Try.f56 = true := by kernel_rfl
@[go_sem] theorem rp_56_4 : rp Try.prog 56 4 = (44, none) := by kernel_rfl
theorem fn_57 : Try.prog.funcs[57]? = some Try.f57 := by kernel_rfl
theorem ok_57 : okFn Try.f57 = true := by kernel_rfl
theorem fn_58 : Try.prog.funcs[58]? = some Try.f58 := by kernel_rfl
theorem ok_58 : okFn Try.f58 = true := by kernel_rfl
theorem fn_59 : Try.prog.funcs[59]? = some Try.f59 := by kernel_rfl
theorem ok_59 : okFn Try.f59 = true := by kernel_rfl
@[go_sem] theorem rp_59_6 : rp Try.prog 59 6 = (15, none) := by kernel_rfl
theorem fn_60 : Try.prog.funcs[60]? = some Try.f60 := by kernel_rfl
theorem ok_60 : okFn Try.f60 = true := by kernel_rfl
@[go_sem] theorem rp_60_8 : rp Try.prog 60 8 = (10, none) := by kernel_rfl
theorem fn_61 : Try.prog.funcs[61]? = some Try.f61 := by kernel_rfl
theorem ok_61 : okFn Try.f61 = true := by kernel_rfl
theorem fn_62 : Try.prog.funcs[62]? = some Try.f62 := by kernel_rfl
theorem ok_62 : okFn Try.f62 = true := by kernel_rfl
theorem fn_63 : Try.prog.funcs[63]? = some Try.f63 := by kernel_rfl
theorem ok_63 : okFn Try.f63 = true := by kernel_rfl
@[go_sem] theorem rp_63_1 : rp Try.prog 63 1 = (6, none) := by kernel_rfl
theorem fn_64 : Try.prog.funcs[64]? = some Try.f64 := by kernel_rfl
theorem ok_64 : okFn Try.f64 = true := by kernel_rfl
theorem fn_65 : Try.prog.funcs[65]? = some Try.f65 := by kernel_rfl
theorem ok_65 : okFn Try.f65 = true := by kernel_rfl
theorem fn_66 : Try.prog.funcs[66]? = some Try.f66 := by kernel_rfl
theorem ok_66 : okFn Try.f66 = true := by kernel_rfl
theorem fn_67 : Try.prog.funcs[67]? = some Try.f67 := by kernel_rfl
theorem ok_67 : okFn Try.f67 = true := by kernel_rfl
theorem fn_68 : Try.prog.funcs[68]? = some Try.f68 := by kernel_rfl
theorem ok_68 : okFn Try.f68 = true := by kernel_rfl
theorem fn_69 : Try.prog.funcs[69]? = some Try.f69 := by kernel_rfl
theorem ok_69 : okFn Try.f69 = true := by kernel_rfl
theorem fn_70 : Try.prog.funcs[70]? = some Try.f70 := by kernel_rfl
theorem ok_70 : okFn Try.f70 = true := by kernel_rfl
@[go_sem] theorem rp_70_1 : rp Try.prog 70 1 = (24, none) := by kernel_rfl
theorem fn_71 : Try.prog.funcs[71]? = some Try.f71 := by kernel_rfl
theorem ok_71 : okFn Try.f71 = true := by kernel_rfl
theorem fn_72 : Try.prog.funcs[72]? = some Try.f72 := by kernel_rfl
theorem ok_72 : okFn Try.f72 = true := by kernel_rfl
theorem fn_73 : Try.prog.funcs[73]? = some Try.f73 := by kernel_rfl
theorem ok_73 : okFn Try.f73 = true := by kernel_rfl
theorem fn_74 : Try.prog.funcs[74]? = some Try.f74 := by kernel_rfl
theorem ok_74 : okFn Try.f74 = true := by kernel_rfl
@[go_sem] theorem rp_74_6 : rp Try.prog 74 6 = (12, none) := by kernel_rfl
theorem fn_75 : Try.prog.funcs[75]? = some Try.f75 := by kernel_rfl
theorem ok_75 : okFn Try.f75 = true := by kernel_rfl
theorem fn_76 : Try.prog.funcs[76]? = some Try.f76 := by kernel_rfl
theorem ok_76 : okFn Try.f76 = true := by kernel_rfl
theorem fn_77 : Try.prog.funcs[77]? = some Try.f77 := by kernel_rfl
theorem ok_77 : okFn Try.f77 = true := by kernel_rfl
@[go_sem] theorem rp_77_14 : rp Try.prog 77 14 = (10, none) := by kernel_rfl
theorem fn_78 : Try.prog.funcs[78]? = some Try.f78 := by kernel_rfl
theorem ok_78 : okFn Try.f78 = true := by kernel_rfl
theorem fn_79 : Try.prog.funcs[79]? = some Try.f79 := by kernel_rfl
theorem ok_79 : okFn Try.f79 = true := by kernel_rfl
theorem fn_80 : Try.prog.funcs[80]? = some Try.f80 := by kernel_rfl
theorem ok_80 : okFn Try.f80 = true := by kernel_rfl
theorem fn_81 : Try.prog.funcs[81]? = some Try.f81 := by kernel_rfl
theorem ok_81 : okFn Try.f81 = true := by kernel_rfl
theorem fn_82 : Try.prog.funcs[82]? = some Try.f82 := by kernel_rfl
theorem ok_82 : okFn Try.f82 = true := by kernel_rfl
@[go_sem] theorem rp_82_2 : rp Try.prog 82 2 = (12, none) := by kernel_rfl
@[go_sem] theorem rp_82_4 : rp Try.prog 82 4 = (12, none) := by kernel_rfl
@[go_sem] theorem rp_82_14 : rp Try.prog 82 14 = (5, none) := by kernel_rfl
@[go_sem] theorem rp_82_16 : rp Try.prog 82 16 = (7, none) := by kernel_rfl
@[go_sem] theorem rp_82_21 : rp Try.prog 82 21 = (15, none) := by kernel_rfl
theorem fn_83 : Try.prog.funcs[83]? = some Try.f83 := by kernel_rfl
theorem ok_83 : okFn Try.f83 = true := by kernel_rfl
theorem fn_84 : Try.prog.funcs[84]? = some Try.f84 := by kernel_rfl
theorem ok_84 : okFn Try.f84 = true := by kernel_rfl
theorem fn_85 : Try.prog.funcs[85]? = some Try.f85 := by kernel_rfl
theorem ok_85 : okFn Try.f85 = true := by kernel_rfl
@[go_sem] theorem rp_85_1 : rp Try.prog 85 1 = (8, none) := by kernel_rfl
theorem fn_86 : Try.prog.funcs[86]? = some Try.f86 := by kernel_rfl
theorem ok_86 : okFn Try.f86 = true := by kernel_rfl
theorem fn_87 : Try.prog.funcs[87]? = some Try.f87 := by kernel_rfl
theorem ok_87 : okFn Try.f87 = true := by kernel_rfl
@[go_sem] theorem rp_87_1 : rp Try.prog 87 1 = (15, none) := by kernel_rfl
theorem fn_88 : Try.prog.funcs[88]? = some Try.f88 := by kernel_rfl
theorem ok_88 : okFn Try.f88 = true := by kernel_rfl
@[go_sem] theorem rp_88_1 : rp Try.prog 88 1 = (9, none) := by kernel_rfl
theorem fn_89 : Try.prog.funcs[89]? = some Try.f89 := by kernel_rfl
theorem ok_89 : okFn Try.f89 = true := by kernel_rfl
theorem fn_90 : Try.prog.funcs[90]? = some Try.f90 := by kernel_rfl
theorem ok_90 : okFn Try.f90 = true := by kernel_rfl
theorem fn_91 : Try.prog.funcs[91]? = some Try.f91 := by kernel_rfl
theorem ok_91 : okFn Try.f91 = true := by kernel_rfl
theorem fn_92 : Try.prog.funcs[92]? = some Try.f92 := by kernel_rfl
theorem ok_92 : okFn Try.f92 = true := by kernel_rfl
theorem fn_93 : Try.prog.funcs[93]? = some Try.f93 := by kernel_rfl
theorem ok_93 : okFn Try.f93 = true := by kernel_rfl
@[go_sem] theorem rp_93_1 : rp Try.prog 93 1 = (17, none) := by kernel_rfl
theorem fn_94 : Try.prog.funcs[94]? = some Try.f94 := by kernel_rfl
theorem ok_94 : okFn Try.f94 = true := by kernel_rfl
theorem fn_95 : Try.prog.funcs[95]? = some Try.f95 := by kernel_rfl
theorem ok_95 : okFn Try.f95 = true := by kernel_rfl
theorem fn_96 : Try.prog.funcs[96]? = some Try.f96 := by kernel_rfl
theorem ok_96 : okFn Try.f96 = true := by kernel_rfl
@[go_sem] theorem rp_96_5 : rp Try.prog 96 5 = (20, none) := by kernel_rfl
theorem fn_97 : Try.prog.funcs[97]? = some Try.f97 := by kernel_rfl
theorem ok_97 : okFn Try.f97 = true := by kernel_rfl
theorem fn_98 : Try.prog.funcs[98]? = some Try.f98 := by kernel_rfl
theorem ok_98 : okFn Try.f98 = true := by kernel_rfl
theorem fn_99 : Try.prog.funcs[99]? = some Try.f99 := by kernel_rfl
theorem ok_99 : okFn Try.f99 = true := by kernel_rfl
@[go_sem] theorem rp_99_1 : rp Try.prog 99 1 = (7, none) := by kernel_rfl
theorem fn_100 : Try.prog.funcs[100]? = some Try.f100 := by kernel_rfl
theorem ok_100 : okFn Try.f100 = true := by kernel_rfl
@[go_sem] theorem rp_100_3 : rp Try.prog 100 3 = (9, none) := by kernel_rfl
theorem fn_101 : Try.prog.funcs[101]? = some Try.f101 := by kernel_rfl
theorem ok_101 : okFn Try.f101 = true := by kernel_rfl
theorem fn_102 : Try.prog.funcs[102]? = some Try.f102 := by kernel_rfl
theorem ok_102 : okFn Try.f102 = true := by kernel_rfl
theorem fn_103 : Try.prog.funcs[103]? = some Try.f103 := by kernel_rfl
theorem ok_103 : okFn Try.f103 = true := by kernel_rfl
theorem fn_104 : Try.prog.funcs[104]? = some Try.f104 := by kernel_rfl
theorem ok_104 : okFn Try.f104 = true := by kernel_rfl
theorem fn_105 : Try.prog.funcs[105]? = some Try.f105 := by kernel_rfl
theorem ok_105 : okFn Try.f105 = true := by kernel_rfl
theorem fn_106 : Try.prog.funcs[106]? = some Try.f106 := by kernel_rfl
theorem ok_106 : okFn Try.f106 = true := by kernel_rfl
theorem fn_107 : Try.prog.funcs[107]? = some Try.f107 := by kernel_rfl
theorem ok_107 : okFn Try.f107 = true := by kernel_rfl
theorem fn_108 : Try.prog.funcs[108]? = some Try.f108 := by kernel_rfl
theorem ok_108 : okFn Try.f108 = true := by kernel_rfl
theorem fn_109 : Try.prog.funcs[109]? = some Try.f109 := by kernel_rfl
theorem ok_109 : okFn Try.f109 = true := by kernel_rfl
theorem fn_110 : Try.prog.funcs[110]? = some Try.f110 := by kernel_rfl
theorem ok_110 : okFn Try.f110 = true := by kernel_rfl
theorem fn_111 : Try.prog.funcs[111]? = some Try.f111 := by kernel_rfl
theorem ok_111 : okFn Try.f111 = true := by kernel_rfl
theorem fn_112 : Try.prog.funcs[112]? = some Try.f112 := by kernel_rfl
theorem ok_112 : okFn Try.f112 = true := by kernel_rfl
theorem fn_113 : Try.prog.funcs[113]? = some Try.f113 := by kernel_rfl
theorem ok_113 : okFn Try.f113 = true := by kernel_rfl
@[go_sem] theorem rp_113_5 : rp Try.prog 113 5 = (6, none) := by kernel_rfl
theorem fn_114 : Try.prog.funcs[114]? = some Try.f114 := by kernel_rfl
theorem ok_114 : okFn Try.f114 = true := by kernel_rfl
theorem fn_115 : Try.prog.funcs[115]? = some Try.f115 := by kernel_rfl
theorem ok_115 : okFn Try.f115 = true := by kernel_rfl
@[go_sem] theorem rp_115_0 : rp Try.prog 115 0 = (31, none) := by kernel_rfl
@[go_sem] theorem rp_115_4 : rp Try.prog 115 4 = (8, none) := by kernel_rfl
theorem fn_116 : Try.prog.funcs[116]? = some Try.f116 := by kernel_rfl
theorem ok_116 : okFn Try.f116 = true := by kernel_rfl
theorem fn_117 : Try.prog.funcs[117]? = some Try.f117 := by kernel_rfl
theorem ok_117 : okFn Try.f117 = true := by kernel_rfl
@[go_sem] theorem rp_117_1 : rp Try.prog 117 1 = (10, none) := by kernel_rfl
@[go_sem] theorem rp_117_4 : rp Try.prog 117 4 = (10, none) := by kernel_rfl
@[go_sem] theorem rp_117_10 : rp Try.prog 117 10 = (6, none) := by kernel_rfl
@[go_sem] theorem rp_117_11 : rp Try.prog 117 11 = (12, none) := by kernel_rfl
@[go_sem] theorem rp_117_17 : rp Try.prog 117 17 = (13, none) := by kernel_rfl
theorem fn_118 : Try.prog.funcs[118]? = some Try.f118 := by kernel_rfl
theorem ok_118 : okFn Try.f118 = true := by kernel_rfl
@[go_sem] theorem rp_118_1 : rp Try.prog 118 1 = (7, none) := by kernel_rfl
@[go_sem] theorem rp_118_2 : rp Try.prog 118 2 = (8, none) := by kernel_rfl
@[go_sem] theorem rp_118_6 : rp Try.prog 118 6 = (6, none) := by kernel_rfl
@[go_sem] theorem rp_118_7 : rp Try.prog 118 7 = (12, none) := by kernel_rfl
@[go_sem] theorem rp_118_10 : rp Try.prog 118 10 = (10, none) := by kernel_rfl
@[go_sem] theorem rp_118_12 : rp Try.prog 118 12 = (24, none) := by kernel_rfl
theorem fn_119 : Try.prog.funcs[119]? = some Try.f119 := by kernel_rfl
theorem ok_119 : okFn Try.f119 = true := by kernel_rfl
@[go_sem] theorem rp_119_9 : rp Try.prog 119 9 = (18, none) := by kernel_rfl
theorem fn_120 : Try.prog.funcs[120]? = some Try.f120 := by kernel_rfl
theorem ok_120 : okFn Try.f120 = true := by kernel_rfl
@[go_sem] theorem rp_120_6 : rp Try.prog 120 6 = (13, none) := by kernel_rfl
theorem fn_121 : Try.prog.funcs[121]? = some Try.f121 := by kernel_rfl
theorem ok_121 : okFn Try.f121 = true := by kernel_rfl
@[go_sem] theorem rp_121_8 : rp Try.prog 121 8 = (12, none) := by kernel_rfl
theorem fn_122 : Try.prog.funcs[122]? = some Try.f122 := by kernel_rfl
theorem ok_122 : okFn Try.f122 = true := by kernel_rfl
@[go_sem] theorem rp_122_8 : rp Try.prog 122 8 = (12, none) := by kernel_rfl
@[go_sem] theorem rp_122_20 : rp Try.prog 122 20 = (12, none) := by kernel_rfl
theorem fn_123 : Try.prog.funcs[123]? = some Try.f123 := by kernel_rfl
theorem ok_123 : okFn Try.f123 = true := by kernel_rfl
theorem fn_124 : Try.prog.funcs[124]? = some Try.f124 := by kernel_rfl
theorem ok_124 : okFn Try.f124 = true := by kernel_rfl
theorem fn_125 : Try.prog.funcs[125]? = some Try.f125 := by kernel_rfl
theorem ok_125 : okFn Try.f125 = true := by kernel_rfl
@[go_sem] theorem rp_125_1 : rp Try.prog 125 1 = (5, none) := by kernel_rfl
theorem fn_126 : Try.prog.funcs[126]? = some Try.f126 := by kernel_rfl
theorem ok_126 : okFn Try.f126 = true := by kernel_rfl
theorem fn_127 : Try.prog.funcs[127]? = some Try.f127 := by kernel_rfl
theorem ok_127 : okFn Try.f127 = true := by kernel_rfl
@[go_sem] theorem rp_127_15 : rp Try.prog 127 15 = (7, none) := by kernel_rfl
@[go_sem] theorem rp_127_27 : rp Try.prog 127 27 = (18, none) := by kernel_rfl
theorem fn_128 : Try.prog.funcs[128]? = some Try.f128 := by kernel_rfl
theorem ok_128 : okFn Try.f128 = true := by kernel_rfl
theorem fn_129 : Try.prog.funcs[129]? = some Try.f129 := by kernel_rfl
theorem ok_129 : okFn Try.f129 = true := by kernel_rfl
theorem fn_130 : Try.prog.funcs[130]? = some Try.f130 := by kernel_rfl
theorem ok_130 : okFn Try.f130 = true := by kernel_rfl
theorem fn_131 : Try.prog.funcs[131]? = some Try.f131 := by kernel_rfl
theorem ok_131 : okFn Try.f131 = true := by kernel_rfl
theorem fn_132 : Try.prog.funcs[132]? = some Try.f132 := by kernel_rfl
theorem ok_132 : okFn Try.f132 = true := by kernel_rfl
theorem fn_133 : Try.prog.funcs[133]? = some Try.f133 := by kernel_rfl
theorem ok_133 : okFn Try.f133 = true := by kernel_rfl
theorem fn_134 : Try.prog.funcs[134]? = some Try.f134 := by kernel_rfl
theorem ok_134 : okFn Try.f134 = true := by kernel_rfl
theorem fn_135 : Try.prog.funcs[135]? = some Try.f135 := by kernel_rfl
theorem ok_135 : okFn Try.f135 = true := by kernel_rfl
theorem fn_136 : Try.prog.funcs[136]? = some Try.f136 := by kernel_rfl
theorem ok_136 : okFn Try.f136 = true := by kernel_rfl
theorem fn_137 : Try.prog.funcs[137]? = some Try.f137 := by kernel_rfl
theorem ok_137 : okFn Try.f137 = true := by kernel_rfl
theorem fn_138 : Try.prog.funcs[138]? = some Try.f138 := by kernel_rfl
theorem ok_138 : okFn Try.f138 = true := by kernel_rfl
theorem fn_139 : Try.prog.funcs[139]? = some Try.f139 := by kernel_rfl
theorem ok_139 : okFn Try.f139 = true := by kernel_rfl
@[go_sem] theorem rp_139_2 : rp Try.prog 139 2 = (7, none) := by kernel_rfl
theorem fn_140 : Try.prog.funcs[140]? = some Try.f140 := by kernel_rfl
theorem ok_140 : okFn Try.f140 = true := by kernel_rfl
theorem fn_141 : Try.prog.funcs[141]? = some Try.f141 := by kernel_rfl
theorem ok_141 : okFn Try.f141 = true := by kernel_rfl
theorem fn_142 : Try.prog.funcs[142]? = some Try.f142 := by kernel_rfl
theorem ok_142 : okFn Try.f142 = true := by kernel_rfl
theorem fn_143 : Try.prog.funcs[143]? = some Try.f143 := by kernel_rfl
theorem ok_143 : okFn Try.f143 = true := by kernel_rfl
theorem fn_144 : Try.prog.funcs[144]? = some Try.f144 := by kernel_rfl
theorem ok_144 : okFn Try.f144 = true := by kernel_rfl
theorem fn_145 : Try.prog.funcs[145]? = some Try.f145 := by kernel_rfl
theorem ok_145 : okFn Try.f145 = true := by kernel_rfl
theorem fn_146 : Try.prog.funcs[146]? = some Try.f146 := by kernel_rfl
theorem ok_146 : okFn Try.f146 = true := by kernel_rfl
theorem fn_147 : Try.prog.funcs[147]? = some Try.f147 := by kernel_rfl
theorem ok_147 : okFn Try.f147 = true := by kernel_rfl
theorem fn_148 : Try.prog.funcs[148]? = some Try.f148 := by kernel_rfl
theorem fn_149 : Try.prog.funcs[149]? = some Try.f149 := by kernel_rfl
theorem ok_149 : okFn Try.f149 = true := by kernel_rfl
@[go_sem] theorem rp_149_7 : rp Try.prog 149 7 = (50, none) := by kernel_rfl
theorem fn_150 : Try.prog.funcs[150]? = some Try.f150 := by kernel_rfl
theorem ok_150 : okFn Try.f150 = true := by kernel_rfl
theorem fn_151 : Try.prog.funcs[151]? = some Try.f151 := by kernel_rfl
theorem ok_151 : okFn Try.f151 = true := by kernel_rfl
theorem fn_152 : Try.prog.funcs[152]? = some Try.f152 := by kernel_rfl
theorem ok_152 : okFn Try.f152 = true := by kernel_rfl
theorem fn_153 : Try.prog.funcs[153]? = some Try.f153 := by kernel_rfl
theorem ok_153 : okFn Try.f153 = true := by kernel_rfl
theorem fn_154 : Try.prog.funcs[154]? = some Try.f154 := by kernel_rfl
theorem ok_154 : okFn Try.f154 = true := by kernel_rfl
theorem fn_155 : Try.prog.funcs[155]? = some Try.f155 := by kernel_rfl
theorem ok_155 : okFn Try.f155 = true := by kernel_rfl
@[go_sem] theorem rp_155_7 : rp Try.prog 155 7 = (34, none) := by kernel_rfl
theorem fn_156 : Try.prog.funcs[156]? = some Try.f156 := by kernel_rfl
theorem ok_156 : okFn Try.f156 = true := by kernel_rfl
theorem fn_157 : Try.prog.funcs[157]? = some Try.f157 := by kernel_rfl
theorem ok_157 : okFn Try.f157 = true := by kernel_rfl
theorem fn_158 : Try.prog.funcs[158]? = some Try.f158 := by kernel_rfl
theorem ok_158 : okFn Try.f158 = true := by kernel_rfl
@[go_sem] theorem rp_158_1 : rp Try.prog 158 1 = (9, none) := by kernel_rfl
theorem fn_159 : Try.prog.funcs[159]? = some Try.f159 := by kernel_rfl
theorem ok_159 : okFn Try.f159 = true := by kernel_rfl
theorem fn_160 : Try.prog.funcs[160]? = some Try.f160 := by kernel_rfl
theorem ok_160 : okFn Try.f160 = true := by kernel_rfl
theorem fn_161 : Try.prog.funcs[161]? = some Try.f161 := by kernel_rfl
theorem ok_161 : okFn Try.f161 = true := by kernel_rfl
theorem fn_162 : Try.prog.funcs[162]? = some Try.f162 := by kernel_rfl
theorem ok_162 : okFn Try.f162 = true := by kernel_rfl
theorem fn_163 : Try.prog.funcs[163]? = some Try.f163 := by kernel_rfl
theorem ok_163 : okFn Try.f163 = true := by kernel_rfl
theorem fn_164 : Try.prog.funcs[164]? = some Try.f164 := by kernel_rfl
theorem ok_164 : okFn Try.f164 = true := by kernel_rfl
@[go_sem] theorem rp_164_1 : rp Try.prog 164 1 = (15, none) := by kernel_rfl
theorem fn_165 : Try.prog.funcs[165]? = some Try.f165 := by kernel_rfl
theorem ok_165 : okFn Try.f165 = true := by kernel_rfl
theorem fn_166 : Try.prog.funcs[166]? = some Try.f166 := by kernel_rfl
theorem ok_166 : okFn Try.f166 = true := by kernel_rfl
theorem fn_167 : Try.prog.funcs[167]? = some Try.f167 := by kernel_rfl
theorem ok_167 : okFn Try.f167 = true := by kernel_rfl
theorem fn_168 : Try.prog.funcs[168]? = some Try.f168 := by kernel_rfl
theorem ok_168 : okFn Try.f168 = true := by kernel_rfl
theorem fn_169 : Try.prog.funcs[169]? = some Try.f169 := by kernel_rfl
theorem ok_169 : okFn Try.f169 = true := by kernel_rfl
theorem fn_170 : Try.prog.funcs[170]? = some Try.f170 := by kernel_rfl
theorem ok_170 : okFn Try.f170 = true := by kernel_rfl
theorem fn_171 : Try.prog.funcs[171]? = some Try.f171 := by kernel_rfl
theorem ok_171 : okFn Try.f171 = true := by kernel_rfl
@[go_sem] theorem rp_171_12 : rp Try.prog 171 12 = (29, none) := by kernel_rfl
theorem fn_172 : Try.prog.funcs[172]? = some Try.f172 := by kernel_rfl
theorem ok_172 : okFn Try.f172 = true := by kernel_rfl
theorem fn_173 : Try.prog.funcs[173]? = some Try.f173 := by kernel_rfl
theorem ok_173 : okFn Try.f173 = true := by kernel_rfl
theorem fn_174 : Try.prog.funcs[174]? = some Try.f174 := by kernel_rfl
theorem ok_174 : okFn Try.f174 = true := by kernel_rfl
theorem fn_175 : Try.prog.funcs[175]? = some Try.f175 := by kernel_rfl
theorem ok_175 : okFn Try.f175 = true := by kernel_rfl
theorem fn_176 : Try.prog.funcs[176]? = some Try.f176 := by kernel_rfl
theorem ok_176 : okFn Try.f176 = true := by kernel_rfl
theorem fn_177 : Try.prog.funcs[177]? = some Try.f177 := by kernel_rfl
theorem ok_177 : okFn Try.f177 = true := by kernel_rfl
theorem fn_178 : Try.prog.funcs[178]? = some Try.f178 := by kernel_rfl
theorem ok_178 : okFn Try.f178 = true := by kernel_rfl
theorem fn_179 : Try.prog.funcs[179]? = some Try.f179 := by kernel_rfl
theorem ok_179 : okFn Try.f179 = true := by kernel_rfl
theorem fn_180 : Try.prog.funcs[180]? = some Try.f180 := by kernel_rfl
theorem ok_180 : okFn Try.f180 = true := by kernel_rfl
theorem fn_181 : Try.prog.funcs[181]? = some Try.f181 := by kernel_rfl
theorem ok_181 : okFn Try.f181 = true := by kernel_rfl
theorem fn_182 : Try.prog.funcs[182]? = some Try.f182 := by kernel_rfl
theorem ok_182 : okFn Try.f182 = true := by kernel_rfl
theorem fn_183 : Try.prog.funcs[183]? = some Try.f183 := by kernel_rfl
theorem ok_183 : okFn Try.f183 = true := by kernel_rfl
theorem fn_184 : Try.prog.funcs[184]? = some Try.f184 := by kernel_rfl
theorem ok_184 : okFn Try.f184 = true := by kernel_rfl
theorem fn_185 : Try.prog.funcs[185]? = some Try.f185 := by kernel_rfl
theorem ok_185 : okFn Try.f185 = true := by kernel_rfl
def okl : List Nat := [3, 4, 5, 6, 7, 8, 9, 10, 12, 13, 14, 15, 16, 17, 18, 19, 20, 21, 22, 23, 24, 25, 26, 27, 28, 29, 30, 31, 32, 33, 34, 36, 37, 39, 40, 42, 43, 44, 45, 46, 47, 48, 49, 50, 51, 52, 53, 54, 55, 56, 57, 58, 59, 60, 61, 62, 63, 64, 65, 66, 67, 68, 69, 70, 71, 72, 73, 74, 75, 76, 77, 78, 79, 80, 81, 82, 83, 84, 85, 86, 87, 88, 89, 90, 91, 92, 93, 94, 95, 96, 97, 98, 99, 100, 101, 102, 103, 104, 105, 106, 107, 108, 109, 110, 111, 112, 113, 114, 115, 116, 117, 118, 119, 120, 121, 122, 123, 124, 125, 126, 127, 128, 129, 130, 131, 132, 133, 134, 135, 136, 137, 138, 139, 140, 141, 142, 143, 144, 145, 146, 147, 149, 150, 151, 152, 153, 154, 155, 156, 157, 158, 159, 160, 161, 162, 163, 164, 165, 166, 167, 168, 169, 170, 171, 172, 173, 174, 175, 176, 177, 178, 179, 180, 181, 182, 183, 184, 185]
def okBits : Nat := 98079714615060075011757719767355216259236927527393949688
set_option maxRecDepth 100000 in
theorem okl_ok : ∀ f ∈ okl, ∃ fn, Try.prog.funcs[f]? = some fn ∧ okFn fn = true := by
  simp only [okl, List.forall_mem_cons]
  exact ⟨⟨_, fn_3, ok_3⟩, ⟨_, fn_4, ok_4⟩, ⟨_, fn_5, ok_5⟩, ⟨_, fn_6, ok_6⟩, ⟨_, fn_7, ok_7⟩, ⟨_, fn_8, ok_8⟩, ⟨_, fn_9, ok_9⟩, ⟨_, fn_10, ok_10⟩, ⟨_, fn_12, ok_12⟩, ⟨_, fn_13, ok_13⟩, ⟨_, fn_14, ok_14⟩, ⟨_, fn_15, ok_15⟩, ⟨_, fn_16, ok_16⟩, ⟨_, fn_17, ok_17⟩, ⟨_, fn_18, ok_18⟩, ⟨_, fn_19, ok_19⟩, ⟨_, fn_20, ok_20⟩, ⟨_, fn_21, ok_21⟩, ⟨_, fn_22, ok_22⟩, ⟨_, fn_23, ok_23⟩, ⟨_, fn_24, ok_24⟩, ⟨_, fn_25, ok_25⟩, ⟨_, fn_26, ok_26⟩, ⟨_, fn_27, ok_27⟩, ⟨_, fn_28, ok_28⟩, ⟨_, fn_29, ok_29⟩, ⟨_, fn_30, ok_30⟩, ⟨_, fn_31, ok_31⟩, ⟨_, fn_32, ok_32⟩, ⟨_, fn_33, ok_33⟩, ⟨_, fn_34, ok_34⟩, ⟨_, fn_36, ok_36⟩, ⟨_, fn_37, ok_37⟩, ⟨_, fn_39, ok_39⟩, ⟨_, fn_40, ok_40⟩, ⟨_, fn_42, ok_42⟩, ⟨_, fn_43, ok_43⟩, ⟨_, fn_44, ok_44⟩, ⟨_, fn_45, ok_45⟩, ⟨_, fn_46, ok_46⟩, ⟨_, fn_47, ok_47⟩, ⟨_, fn_48, ok_48⟩, ⟨_, fn_49, ok_49⟩, ⟨_, fn_50, ok_50⟩, ⟨_, fn_51, ok_51⟩, ⟨_, fn_52, ok_52⟩, ⟨_, fn_53, ok_53⟩, ⟨_, fn_54, ok_54⟩, ⟨_, fn_55, ok_55⟩, ⟨_, fn_56, ok_56⟩, ⟨_, fn_57, ok_57⟩, ⟨_, fn_58, ok_58⟩, ⟨_, fn_59, ok_59⟩, ⟨_, fn_60, ok_60⟩, ⟨_, fn_61, ok_61⟩, ⟨_, fn_62, ok_62⟩, ⟨_, fn_63, ok_63⟩, ⟨_, fn_64, ok_64⟩, ⟨_, fn_65, ok_65⟩, ⟨_, fn_66, ok_66⟩, ⟨_, fn_67, ok_67⟩, ⟨_, fn_68, ok_68⟩, ⟨_, fn_69, ok_69⟩, ⟨_, fn_70, ok_70⟩, ⟨_, fn_71, ok_71⟩, ⟨_, fn_72, ok_72⟩, ⟨_, fn_73, ok_73⟩, ⟨_, fn_74, ok_74⟩, ⟨_, fn_75, ok_75⟩, ⟨_, fn_76, ok_76⟩, ⟨_, fn_77, ok_77⟩, ⟨_, fn_78, ok_78⟩, ⟨_, fn_79, ok_79⟩, ⟨_, fn_80, ok_80⟩, ⟨_, fn_81, ok_81⟩, ⟨_, fn_82, ok_82⟩, ⟨_, fn_83, ok_83⟩, ⟨_, fn_84, ok_84⟩, ⟨_, fn_85, ok_85⟩, ⟨_, fn_86, ok_86⟩, ⟨_, fn_87, ok_87⟩, ⟨_, fn_88, ok_88⟩, ⟨_, fn_89, ok_89⟩, ⟨_, fn_90, ok_90⟩, ⟨_, fn_91, ok_91⟩, ⟨_, fn_92, ok_92⟩, ⟨_, fn_93, ok_93⟩, ⟨_, fn_94, ok_94⟩, ⟨_, fn_95, ok_95⟩, ⟨_, fn_96, ok_96⟩, ⟨_, fn_97, ok_97⟩, ⟨_, fn_98, ok_98⟩, ⟨_, fn_99, ok_99⟩, ⟨_, fn_100, ok_100⟩, ⟨_, fn_101, ok_101⟩, ⟨_, fn_102, ok_102⟩, ⟨_, fn_103, ok_103⟩, ⟨_, fn_104, ok_104⟩, ⟨_, fn_105, ok_105⟩, ⟨_, fn_106, ok_106⟩, ⟨_, fn_107, ok_107⟩, ⟨_, fn_108, ok_108⟩, ⟨_, fn_109, ok_109⟩, ⟨_, fn_110, ok_110⟩, ⟨_, fn_111, ok_111⟩, ⟨_, fn_112, ok_112⟩, ⟨_, fn_113, ok_113⟩, ⟨_, fn_114, ok_114⟩, ⟨_, fn_115, ok_115⟩, ⟨_, fn_116, ok_116⟩, ⟨_, fn_117, ok_117⟩, ⟨_, fn_118, ok_118⟩, ⟨_, fn_119, ok_119⟩, ⟨_, fn_120, ok_120⟩, ⟨_, fn_121, ok_121⟩, ⟨_, fn_122, ok_122⟩, ⟨_, fn_123, ok_123⟩, ⟨_, fn_124, ok_124⟩, ⟨_, fn_125, ok_125⟩, ⟨_, fn_126, ok_126⟩, ⟨_, fn_127, ok_127⟩, ⟨_, fn_128, ok_128⟩, ⟨_, fn_129, ok_129⟩, ⟨_, fn_130, ok_130⟩, ⟨_, fn_131, ok_131⟩, ⟨_, fn_132, ok_132⟩, ⟨_, fn_133, ok_133⟩, ⟨_, fn_134, ok_134⟩, ⟨_, fn_135, ok_135⟩, ⟨_, fn_136, ok_136⟩, ⟨_, fn_137, ok_137⟩, ⟨_, fn_138, ok_138⟩, ⟨_, fn_139, ok_139⟩, ⟨_, fn_140, ok_140⟩, ⟨_, fn_141, ok_141⟩, ⟨_, fn_142, ok_142⟩, ⟨_, fn_143, ok_143⟩, ⟨_, fn_144, ok_144⟩, ⟨_, fn_145, ok_145⟩, ⟨_, fn_146, ok_146⟩, ⟨_, fn_147, ok_147⟩, ⟨_, fn_149, ok_149⟩, ⟨_, fn_150, ok_150⟩, ⟨_, fn_151, ok_151⟩, ⟨_, fn_152, ok_152⟩, ⟨_, fn_153, ok_153⟩, ⟨_, fn_154, ok_154⟩, ⟨_, fn_155, ok_155⟩, ⟨_, fn_156, ok_156⟩, ⟨_, fn_157, ok_157⟩, ⟨_, fn_158, ok_158⟩, ⟨_, fn_159, ok_159⟩, ⟨_, fn_160, ok_160⟩, ⟨_, fn_161, ok_161⟩, ⟨_, fn_162, ok_162⟩, ⟨_, fn_163, ok_163⟩, ⟨_, fn_164, ok_164⟩, ⟨_, fn_165, ok_165⟩, ⟨_, fn_166, ok_166⟩, ⟨_, fn_167, ok_167⟩, ⟨_, fn_168, ok_168⟩, ⟨_, fn_169, ok_169⟩, ⟨_, fn_170, ok_170⟩, ⟨_, fn_171, ok_171⟩, ⟨_, fn_172, ok_172⟩, ⟨_, fn_173, ok_173⟩, ⟨_, fn_174, ok_174⟩, ⟨_, fn_175, ok_175⟩, ⟨_, fn_176, ok_176⟩, ⟨_, fn_177, ok_177⟩, ⟨_, fn_178, ok_178⟩, ⟨_, fn_179, ok_179⟩, ⟨_, fn_180, ok_180⟩, ⟨_, fn_181, ok_181⟩, ⟨_, fn_182, ok_182⟩, ⟨_, fn_183, ok_183⟩, ⟨_, fn_184, ok_184⟩, ⟨_, fn_185, ok_185⟩, fun f h => by simp at h⟩
theorem okBits_ok (f : Nat) (h : okBits.testBit f = true) : ∃ fn, Try.prog.funcs[f]? = some fn ∧ okFn fn = true := by
  refine okl_ok f ?_
  have h1 : ∀ f, f < 202 → okBits.testBit f = true → f ∈ okl := by decide +kernel
  rcases Nat.lt_or_ge f 202 with h2 | h2
  · exact h1 f h2 h
  · exfalso
    have h3 : okBits < 2 ^ 202 := by decide +kernel
    rw [Nat.testBit_lt_two_pow (Nat.lt_of_lt_of_le h3 (Nat.pow_le_pow_right (by omega) h2))] at h
    cases h
end Go.Proofs.Ytakmilmckdllfaa.G
