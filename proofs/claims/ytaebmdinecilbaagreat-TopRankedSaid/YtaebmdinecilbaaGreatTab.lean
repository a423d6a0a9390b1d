/- The tables of the program of this seat, as the evaluator looks at them, and that they are right. Made by program. -/
import Derived.Test.YtaebmdinecilbaaGreatChecked
import Derived.KernelRfl
import Derived.Test.YtaebmdinecilbaaGreatSxTb
namespace Go.Proofs.YtaebmdinecilbaaGreat.T
open Go.Sx
set_option maxRecDepth 100000
noncomputable def T0 : TyI := ⟨Tryz.t0.desc, 1, false, 0, (some (.tuple [])), [], none, 0, true⟩
theorem ty0 : TyOk Tryz.prog 0 T0 := mkTy_ok (by kernel_rfl)
noncomputable def T1 : TyI := ⟨Tryz.t1.desc, 1, false, 8, (some .nilFunc), [], none, 0, true⟩
theorem ty1 : TyOk Tryz.prog 1 T1 := mkTy_ok (by kernel_rfl)
noncomputable def T2 : TyI := ⟨Tryz.t2.desc, 1, false, 8, (some (.int .i64 (.lit (0)))), [], none, 0, true⟩
theorem ty2 : TyOk Tryz.prog 2 T2 := mkTy_ok (by kernel_rfl)
noncomputable def T3 : TyI := ⟨Tryz.t3.desc, 1, false, 8, (some (.int .i64 (.lit (0)))), [], none, 0, true⟩
theorem ty3 : TyOk Tryz.prog 3 T3 := mkTy_ok (by kernel_rfl)
noncomputable def T4 : TyI := ⟨Tryz.t4.desc, 1, false, 1, (some (.bool (.lit (0)))), [], none, 0, true⟩
theorem ty4 : TyOk Tryz.prog 4 T4 := mkTy_ok (by kernel_rfl)
noncomputable def T5 : TyI := ⟨Tryz.t5.desc, 1, false, 1, (some (.int .u8 (.lit (0)))), [], none, 0, true⟩
theorem ty5 : TyOk Tryz.prog 5 T5 := mkTy_ok (by kernel_rfl)
noncomputable def T6 : TyI := ⟨Tryz.t5.desc, 1, false, 1, (some (.int .u8 (.lit (0)))), [], none, 0, true⟩
theorem ty6 : TyOk Tryz.prog 6 T6 := mkTy_ok (by kernel_rfl)
noncomputable def T7 : TyI := ⟨Tryz.t7.desc, 4, true, 24, (some (.agg [(.int .i64 (.lit (0))), (.int .i64 (.lit (0))), (.bool (.lit (0))), (.int .u8 (.lit (0)))])), [⟨2, 0, 1, false, false⟩, ⟨3, 1, 1, false, false⟩, ⟨4, 2, 1, false, false⟩, ⟨6, 3, 1, false, false⟩], none, 0, true⟩
theorem ty7 : TyOk Tryz.prog 7 T7 := mkTy_ok (by kernel_rfl)
noncomputable def T8 : TyI := ⟨Tryz.t7.desc, 4, true, 24, (some (.agg [(.int .i64 (.lit (0))), (.int .i64 (.lit (0))), (.bool (.lit (0))), (.int .u8 (.lit (0)))])), [⟨2, 0, 1, false, false⟩, ⟨3, 1, 1, false, false⟩, ⟨4, 2, 1, false, false⟩, ⟨6, 3, 1, false, false⟩], none, 0, true⟩
theorem ty8 : TyOk Tryz.prog 8 T8 := mkTy_ok (by kernel_rfl)
noncomputable def T9 : TyI := ⟨Tryz.t9.desc, 1, false, 16, (some (.str [])), [], none, 0, true⟩
theorem ty9 : TyOk Tryz.prog 9 T9 := mkTy_ok (by kernel_rfl)
noncomputable def T10 : TyI := ⟨Tryz.t9.desc, 1, false, 16, (some (.str [])), [], none, 0, true⟩
theorem ty10 : TyOk Tryz.prog 10 T10 := mkTy_ok (by kernel_rfl)
noncomputable def T11 : TyI := ⟨Tryz.t9.desc, 1, false, 16, (some (.str [])), [], none, 0, true⟩
theorem ty11 : TyOk Tryz.prog 11 T11 := mkTy_ok (by kernel_rfl)
noncomputable def T12 : TyI := ⟨Tryz.t12.desc, 1, false, 8, (some (.int .u64 (.lit (0)))), [], none, 0, true⟩
theorem ty12 : TyOk Tryz.prog 12 T12 := mkTy_ok (by kernel_rfl)
noncomputable def T13 : TyI := ⟨Tryz.t13.desc, 2, true, 24, (some (.agg [(.str []), (.int .u64 (.lit (0)))])), [⟨9, 0, 1, false, false⟩, ⟨12, 1, 1, false, false⟩], none, 0, false⟩
theorem ty13 : TyOk Tryz.prog 13 T13 := mkTy_ok (by kernel_rfl)
noncomputable def T14 : TyI := ⟨Tryz.t13.desc, 2, true, 24, (some (.agg [(.str []), (.int .u64 (.lit (0)))])), [⟨9, 0, 1, false, false⟩, ⟨12, 1, 1, false, false⟩], none, 0, false⟩
theorem ty14 : TyOk Tryz.prog 14 T14 := mkTy_ok (by kernel_rfl)
noncomputable def T15 : TyI := ⟨Tryz.t15.desc, 1, false, 8, (some .nilPtr), [], none, 0, true⟩
theorem ty15 : TyOk Tryz.prog 15 T15 := mkTy_ok (by kernel_rfl)
noncomputable def T16 : TyI := ⟨Tryz.t16.desc, 1, false, 8, (some .nilPtr), [], none, 0, true⟩
theorem ty16 : TyOk Tryz.prog 16 T16 := mkTy_ok (by kernel_rfl)
noncomputable def T17 : TyI := ⟨Tryz.t17.desc, 1, false, 8, (some .nilPtr), [], none, 0, true⟩
theorem ty17 : TyOk Tryz.prog 17 T17 := mkTy_ok (by kernel_rfl)
noncomputable def T18 : TyI := ⟨Tryz.t18.desc, 1, true, 8, (some (.agg [.nilPtr])), [⟨17, 0, 1, false, false⟩], none, 0, false⟩
theorem ty18 : TyOk Tryz.prog 18 T18 := mkTy_ok (by kernel_rfl)
noncomputable def T19 : TyI := ⟨Tryz.t18.desc, 1, true, 8, (some (.agg [.nilPtr])), [⟨17, 0, 1, false, false⟩], none, 0, false⟩
theorem ty19 : TyOk Tryz.prog 19 T19 := mkTy_ok (by kernel_rfl)
noncomputable def T20 : TyI := ⟨Tryz.t20.desc, 1, false, 16, (some .nilIface), [], none, 0, true⟩
theorem ty20 : TyOk Tryz.prog 20 T20 := mkTy_ok (by kernel_rfl)
noncomputable def T21 : TyI := ⟨Tryz.t21.desc, 1, false, 4, (some (.int .i32 (.lit (0)))), [], none, 0, true⟩
theorem ty21 : TyOk Tryz.prog 21 T21 := mkTy_ok (by kernel_rfl)
noncomputable def T22 : TyI := ⟨Tryz.t22.desc, 2, true, 2, (some (.agg [(.int .u8 (.lit (0))), (.int .u8 (.lit (0)))])), [], (some ⟨5, 0, 1, false, false⟩), 2, true⟩
theorem ty22 : TyOk Tryz.prog 22 T22 := mkTy_ok (by kernel_rfl)
noncomputable def T23 : TyI := ⟨Tryz.t23.desc, 1, false, 2, (some (.int .i16 (.lit (0)))), [], none, 0, true⟩
theorem ty23 : TyOk Tryz.prog 23 T23 := mkTy_ok (by kernel_rfl)
noncomputable def T24 : TyI := ⟨Tryz.t24.desc, 2, true, 4, (some (.agg [(.int .i16 (.lit (0))), (.int .i16 (.lit (0)))])), [], (some ⟨23, 0, 1, false, false⟩), 2, true⟩
theorem ty24 : TyOk Tryz.prog 24 T24 := mkTy_ok (by kernel_rfl)
noncomputable def T25 : TyI := ⟨Tryz.t25.desc, 4, true, 32, (some (.agg [(.int .i64 (.lit (0))), (.int .i64 (.lit (0))), (.int .i64 (.lit (0))), (.int .i64 (.lit (0)))])), [], (some ⟨3, 0, 1, false, false⟩), 4, true⟩
theorem ty25 : TyOk Tryz.prog 25 T25 := mkTy_ok (by kernel_rfl)
noncomputable def T26 : TyI := ⟨Tryz.t26.desc, 4, true, 4, (some (.agg [(.bool (.lit (0))), (.bool (.lit (0))), (.bool (.lit (0))), (.bool (.lit (0)))])), [], (some ⟨4, 0, 1, false, false⟩), 4, true⟩
theorem ty26 : TyOk Tryz.prog 26 T26 := mkTy_ok (by kernel_rfl)
noncomputable def T27 : TyI := ⟨Tryz.t27.desc, 2, true, 16, (some (.agg [(.int .i64 (.lit (0))), (.int .i64 (.lit (0)))])), [], (some ⟨3, 0, 1, false, false⟩), 2, true⟩
theorem ty27 : TyOk Tryz.prog 27 T27 := mkTy_ok (by kernel_rfl)
noncomputable def T28 : TyI := ⟨Tryz.t28.desc, 2, true, 2, (some (.agg [(.bool (.lit (0))), (.bool (.lit (0)))])), [], (some ⟨4, 0, 1, false, false⟩), 2, true⟩
theorem ty28 : TyOk Tryz.prog 28 T28 := mkTy_ok (by kernel_rfl)
noncomputable def T29 : TyI := ⟨Tryz.t29.desc, 26, true, 136, (some (.agg [(.int .i64 (.lit (0))), (.int .i64 (.lit (0))), (.int .i64 (.lit (0))), (.int .i64 (.lit (0))), (.int .i64 (.lit (0))), (.int .i64 (.lit (0))), (.int .i64 (.lit (0))), (.int .i64 (.lit (0))), (.int .i64 (.lit (0))), (.bool (.lit (0))), (.bool (.lit (0))), (.bool (.lit (0))), (.bool (.lit (0))), (.bool (.lit (0))), (.bool (.lit (0))), (.bool (.lit (0))), (.bool (.lit (0))), (.int .i64 (.lit (0))), (.int .i64 (.lit (0))), (.bool (.lit (0))), (.bool (.lit (0))), (.bool (.lit (0))), (.int .i64 (.lit (0))), (.int .i64 (.lit (0))), (.int .i64 (.lit (0))), (.int .i64 (.lit (0)))])), [⟨3, 0, 1, false, false⟩, ⟨3, 1, 1, false, false⟩, ⟨3, 2, 1, false, false⟩, ⟨3, 3, 1, false, false⟩, ⟨3, 4, 1, false, false⟩, ⟨25, 5, 4, true, false⟩, ⟨26, 9, 4, true, false⟩, ⟨26, 13, 4, true, false⟩, ⟨27, 17, 2, true, false⟩, ⟨28, 19, 2, true, false⟩, ⟨4, 21, 1, false, false⟩, ⟨3, 22, 1, false, false⟩, ⟨3, 23, 1, false, false⟩, ⟨3, 24, 1, false, false⟩, ⟨3, 25, 1, false, false⟩], none, 0, true⟩
theorem ty29 : TyOk Tryz.prog 29 T29 := mkTy_ok (by kernel_rfl)
noncomputable def T30 : TyI := ⟨Tryz.t29.desc, 26, true, 136, (some (.agg [(.int .i64 (.lit (0))), (.int .i64 (.lit (0))), (.int .i64 (.lit (0))), (.int .i64 (.lit (0))), (.int .i64 (.lit (0))), (.int .i64 (.lit (0))), (.int .i64 (.lit (0))), (.int .i64 (.lit (0))), (.int .i64 (.lit (0))), (.bool (.lit (0))), (.bool (.lit (0))), (.bool (.lit (0))), (.bool (.lit (0))), (.bool (.lit (0))), (.bool (.lit (0))), (.bool (.lit (0))), (.bool (.lit (0))), (.int .i64 (.lit (0))), (.int .i64 (.lit (0))), (.bool (.lit (0))), (.bool (.lit (0))), (.bool (.lit (0))), (.int .i64 (.lit (0))), (.int .i64 (.lit (0))), (.int .i64 (.lit (0))), (.int .i64 (.lit (0)))])), [⟨3, 0, 1, false, false⟩, ⟨3, 1, 1, false, false⟩, ⟨3, 2, 1, false, false⟩, ⟨3, 3, 1, false, false⟩, ⟨3, 4, 1, false, false⟩, ⟨25, 5, 4, true, false⟩, ⟨26, 9, 4, true, false⟩, ⟨26, 13, 4, true, false⟩, ⟨27, 17, 2, true, false⟩, ⟨28, 19, 2, true, false⟩, ⟨4, 21, 1, false, false⟩, ⟨3, 22, 1, false, false⟩, ⟨3, 23, 1, false, false⟩, ⟨3, 24, 1, false, false⟩, ⟨3, 25, 1, false, false⟩], none, 0, true⟩
theorem ty30 : TyOk Tryz.prog 30 T30 := mkTy_ok (by kernel_rfl)
noncomputable def T31 : TyI := ⟨Tryz.t31.desc, 1, false, 0, (some (.tuple [(.agg [(.int .i64 (.lit (0))), (.int .i64 (.lit (0))), (.int .i64 (.lit (0))), (.int .i64 (.lit (0))), (.int .i64 (.lit (0))), (.int .i64 (.lit (0))), (.int .i64 (.lit (0))), (.int .i64 (.lit (0))), (.int .i64 (.lit (0))), (.bool (.lit (0))), (.bool (.lit (0))), (.bool (.lit (0))), (.bool (.lit (0))), (.bool (.lit (0))), (.bool (.lit (0))), (.bool (.lit (0))), (.bool (.lit (0))), (.int .i64 (.lit (0))), (.int .i64 (.lit (0))), (.bool (.lit (0))), (.bool (.lit (0))), (.bool (.lit (0))), (.int .i64 (.lit (0))), (.int .i64 (.lit (0))), (.int .i64 (.lit (0))), (.int .i64 (.lit (0)))]), (.bool (.lit (0)))])), [], none, 0, true⟩
theorem ty31 : TyOk Tryz.prog 31 T31 := mkTy_ok (by kernel_rfl)
noncomputable def T32 : TyI := ⟨Tryz.t32.desc, 1, false, 8, (some .nilFunc), [], none, 0, true⟩
theorem ty32 : TyOk Tryz.prog 32 T32 := mkTy_ok (by kernel_rfl)
noncomputable def T33 : TyI := ⟨Tryz.t3.desc, 1, false, 8, (some (.int .i64 (.lit (0)))), [], none, 0, true⟩
theorem ty33 : TyOk Tryz.prog 33 T33 := mkTy_ok (by kernel_rfl)
noncomputable def T34 : TyI := ⟨Tryz.t34.desc, 1, false, 0, (some (.tuple [(.agg [(.int .i64 (.lit (0))), (.int .i64 (.lit (0))), (.int .i64 (.lit (0))), (.int .i64 (.lit (0))), (.int .i64 (.lit (0))), (.int .i64 (.lit (0))), (.int .i64 (.lit (0))), (.int .i64 (.lit (0))), (.int .i64 (.lit (0))), (.bool (.lit (0))), (.bool (.lit (0))), (.bool (.lit (0))), (.bool (.lit (0))), (.bool (.lit (0))), (.bool (.lit (0))), (.bool (.lit (0))), (.bool (.lit (0))), (.int .i64 (.lit (0))), (.int .i64 (.lit (0))), (.bool (.lit (0))), (.bool (.lit (0))), (.bool (.lit (0))), (.int .i64 (.lit (0))), (.int .i64 (.lit (0))), (.int .i64 (.lit (0))), (.int .i64 (.lit (0)))]), (.int .i64 (.lit (0)))])), [], none, 0, true⟩
theorem ty34 : TyOk Tryz.prog 34 T34 := mkTy_ok (by kernel_rfl)
noncomputable def T35 : TyI := ⟨Tryz.t35.desc, 1, false, 8, (some .nilFunc), [], none, 0, true⟩
theorem ty35 : TyOk Tryz.prog 35 T35 := mkTy_ok (by kernel_rfl)
noncomputable def T36 : TyI := ⟨Tryz.t36.desc, 1, false, 24, (some .nilSlice), [], (some ⟨69, 0, 2, true, false⟩), 0, true⟩
theorem ty36 : TyOk Tryz.prog 36 T36 := mkTy_ok (by kernel_rfl)
noncomputable def T37 : TyI := ⟨Tryz.t37.desc, 1, false, 8, (some .nilFunc), [], none, 0, true⟩
theorem ty37 : TyOk Tryz.prog 37 T37 := mkTy_ok (by kernel_rfl)
noncomputable def T38 : TyI := ⟨Tryz.t38.desc, 4, true, 48, (some (.agg [(.int .i64 (.lit (0))), (.int .i64 (.lit (0))), (.bool (.lit (0))), .nilSlice])), [⟨3, 0, 1, false, false⟩, ⟨3, 1, 1, false, false⟩, ⟨4, 2, 1, false, false⟩, ⟨36, 3, 1, false, false⟩], none, 0, true⟩
theorem ty38 : TyOk Tryz.prog 38 T38 := mkTy_ok (by kernel_rfl)
noncomputable def T39 : TyI := ⟨Tryz.t38.desc, 4, true, 48, (some (.agg [(.int .i64 (.lit (0))), (.int .i64 (.lit (0))), (.bool (.lit (0))), .nilSlice])), [⟨3, 0, 1, false, false⟩, ⟨3, 1, 1, false, false⟩, ⟨4, 2, 1, false, false⟩, ⟨36, 3, 1, false, false⟩], none, 0, true⟩
theorem ty39 : TyOk Tryz.prog 39 T39 := mkTy_ok (by kernel_rfl)
noncomputable def T40 : TyI := ⟨Tryz.t40.desc, 1, false, 0, (some (.tuple [(.agg [(.int .i64 (.lit (0))), (.int .i64 (.lit (0)))]), (.int .i64 (.lit (0)))])), [], none, 0, true⟩
theorem ty40 : TyOk Tryz.prog 40 T40 := mkTy_ok (by kernel_rfl)
noncomputable def T41 : TyI := ⟨Tryz.t41.desc, 1, false, 8, (some .nilFunc), [], none, 0, true⟩
theorem ty41 : TyOk Tryz.prog 41 T41 := mkTy_ok (by kernel_rfl)
noncomputable def T42 : TyI := ⟨Tryz.t42.desc, 3, true, 32, (some (.agg [(.str []), (.int .i64 (.lit (0))), (.int .i64 (.lit (0)))])), [⟨9, 0, 1, false, false⟩, ⟨2, 1, 1, false, false⟩, ⟨3, 2, 1, false, false⟩], none, 0, true⟩
theorem ty42 : TyOk Tryz.prog 42 T42 := mkTy_ok (by kernel_rfl)
noncomputable def T43 : TyI := ⟨Tryz.t42.desc, 3, true, 32, (some (.agg [(.str []), (.int .i64 (.lit (0))), (.int .i64 (.lit (0)))])), [⟨9, 0, 1, false, false⟩, ⟨2, 1, 1, false, false⟩, ⟨3, 2, 1, false, false⟩], none, 0, true⟩
theorem ty43 : TyOk Tryz.prog 43 T43 := mkTy_ok (by kernel_rfl)
noncomputable def T44 : TyI := ⟨Tryz.t44.desc, 6, true, 64, (some (.agg [(.str []), (.int .i64 (.lit (0))), (.int .i64 (.lit (0))), (.str []), (.int .i64 (.lit (0))), (.int .i64 (.lit (0)))])), [], (some ⟨43, 0, 3, true, false⟩), 2, true⟩
theorem ty44 : TyOk Tryz.prog 44 T44 := mkTy_ok (by kernel_rfl)
noncomputable def T45 : TyI := ⟨Tryz.t45.desc, 1, false, 8, (some .nilFunc), [], none, 0, true⟩
theorem ty45 : TyOk Tryz.prog 45 T45 := mkTy_ok (by kernel_rfl)
noncomputable def T46 : TyI := ⟨Tryz.t46.desc, 9, true, 88, (some (.agg [(.int .i64 (.lit (0))), (.int .i64 (.lit (0))), (.int .i64 (.lit (0))), (.bool (.lit (0))), (.str []), (.str []), (.bool (.lit (0))), (.int .i64 (.lit (0))), (.int .i64 (.lit (0)))])), [⟨2, 0, 1, false, false⟩, ⟨3, 1, 1, false, false⟩, ⟨2, 2, 1, false, false⟩, ⟨4, 3, 1, false, false⟩, ⟨9, 4, 1, false, false⟩, ⟨9, 5, 1, false, false⟩, ⟨4, 6, 1, false, false⟩, ⟨27, 7, 2, true, false⟩], none, 0, true⟩
theorem ty46 : TyOk Tryz.prog 46 T46 := mkTy_ok (by kernel_rfl)
noncomputable def T47 : TyI := ⟨Tryz.t46.desc, 9, true, 88, (some (.agg [(.int .i64 (.lit (0))), (.int .i64 (.lit (0))), (.int .i64 (.lit (0))), (.bool (.lit (0))), (.str []), (.str []), (.bool (.lit (0))), (.int .i64 (.lit (0))), (.int .i64 (.lit (0)))])), [⟨2, 0, 1, false, false⟩, ⟨3, 1, 1, false, false⟩, ⟨2, 2, 1, false, false⟩, ⟨4, 3, 1, false, false⟩, ⟨9, 4, 1, false, false⟩, ⟨9, 5, 1, false, false⟩, ⟨4, 6, 1, false, false⟩, ⟨27, 7, 2, true, false⟩], none, 0, true⟩
theorem ty47 : TyOk Tryz.prog 47 T47 := mkTy_ok (by kernel_rfl)
noncomputable def T48 : TyI := ⟨Tryz.t48.desc, 1, false, 8, (some .nilFunc), [], none, 0, true⟩
theorem ty48 : TyOk Tryz.prog 48 T48 := mkTy_ok (by kernel_rfl)
noncomputable def T49 : TyI := ⟨Tryz.t49.desc, 1, false, 0, (some (.tuple [(.int .i64 (.lit (0))), (.int .i64 (.lit (0)))])), [], none, 0, true⟩
theorem ty49 : TyOk Tryz.prog 49 T49 := mkTy_ok (by kernel_rfl)
noncomputable def T50 : TyI := ⟨Tryz.t50.desc, 1, false, 8, (some .nilFunc), [], none, 0, true⟩
theorem ty50 : TyOk Tryz.prog 50 T50 := mkTy_ok (by kernel_rfl)
noncomputable def T51 : TyI := ⟨Tryz.t51.desc, 1, false, 24, (some .nilSlice), [], (some ⟨43, 0, 3, true, false⟩), 0, true⟩
theorem ty51 : TyOk Tryz.prog 51 T51 := mkTy_ok (by kernel_rfl)
noncomputable def T52 : TyI := ⟨Tryz.t52.desc, 1, false, 0, (some (.tuple [.nilSlice, (.int .i64 (.lit (0)))])), [], none, 0, true⟩
theorem ty52 : TyOk Tryz.prog 52 T52 := mkTy_ok (by kernel_rfl)
noncomputable def T53 : TyI := ⟨Tryz.t53.desc, 1, false, 8, (some .nilFunc), [], none, 0, true⟩
theorem ty53 : TyOk Tryz.prog 53 T53 := mkTy_ok (by kernel_rfl)
noncomputable def T54 : TyI := ⟨Tryz.t54.desc, 1, false, 24, (some .nilSlice), [], (some ⟨47, 0, 9, true, false⟩), 0, true⟩
theorem ty54 : TyOk Tryz.prog 54 T54 := mkTy_ok (by kernel_rfl)
noncomputable def T55 : TyI := ⟨Tryz.t55.desc, 1, false, 8, (some .nilFunc), [], none, 0, true⟩
theorem ty55 : TyOk Tryz.prog 55 T55 := mkTy_ok (by kernel_rfl)
noncomputable def T56 : TyI := ⟨Tryz.t56.desc, 1, false, 8, (some .nilFunc), [], none, 0, true⟩
theorem ty56 : TyOk Tryz.prog 56 T56 := mkTy_ok (by kernel_rfl)
noncomputable def T57 : TyI := ⟨Tryz.t57.desc, 6, true, 32, (some (.agg [(.int .i64 (.lit (0))), (.int .i64 (.lit (0))), (.int .i64 (.lit (0))), (.bool (.lit (0))), (.bool (.lit (0))), (.bool (.lit (0)))])), [⟨3, 0, 1, false, false⟩, ⟨27, 1, 2, true, false⟩, ⟨4, 3, 1, false, false⟩, ⟨4, 4, 1, false, false⟩, ⟨4, 5, 1, false, false⟩], none, 0, true⟩
theorem ty57 : TyOk Tryz.prog 57 T57 := mkTy_ok (by kernel_rfl)
noncomputable def T58 : TyI := ⟨Tryz.t57.desc, 6, true, 32, (some (.agg [(.int .i64 (.lit (0))), (.int .i64 (.lit (0))), (.int .i64 (.lit (0))), (.bool (.lit (0))), (.bool (.lit (0))), (.bool (.lit (0)))])), [⟨3, 0, 1, false, false⟩, ⟨27, 1, 2, true, false⟩, ⟨4, 3, 1, false, false⟩, ⟨4, 4, 1, false, false⟩, ⟨4, 5, 1, false, false⟩], none, 0, true⟩
theorem ty58 : TyOk Tryz.prog 58 T58 := mkTy_ok (by kernel_rfl)
noncomputable def T59 : TyI := ⟨Tryz.t59.desc, 1, false, 0, (some (.tuple [(.agg [(.int .i64 (.lit (0))), (.int .i64 (.lit (0))), (.int .i64 (.lit (0))), (.bool (.lit (0))), (.bool (.lit (0))), (.bool (.lit (0)))]), (.int .i64 (.lit (0)))])), [], none, 0, true⟩
theorem ty59 : TyOk Tryz.prog 59 T59 := mkTy_ok (by kernel_rfl)
noncomputable def T60 : TyI := ⟨Tryz.t60.desc, 1, false, 8, (some .nilFunc), [], none, 0, true⟩
theorem ty60 : TyOk Tryz.prog 60 T60 := mkTy_ok (by kernel_rfl)
noncomputable def T61 : TyI := ⟨Tryz.t61.desc, 1, false, 8, (some .nilFunc), [], none, 0, true⟩
theorem ty61 : TyOk Tryz.prog 61 T61 := mkTy_ok (by kernel_rfl)
noncomputable def T62 : TyI := ⟨Tryz.t62.desc, 1, false, 8, (some .nilPtr), [], none, 0, true⟩
theorem ty62 : TyOk Tryz.prog 62 T62 := mkTy_ok (by kernel_rfl)
noncomputable def T63 : TyI := ⟨Tryz.t63.desc, 1, false, 0, (some (.tuple [.nilPtr, (.int .i64 (.lit (0)))])), [], none, 0, true⟩
theorem ty63 : TyOk Tryz.prog 63 T63 := mkTy_ok (by kernel_rfl)
noncomputable def T64 : TyI := ⟨Tryz.t64.desc, 1, false, 8, (some .nilFunc), [], none, 0, true⟩
theorem ty64 : TyOk Tryz.prog 64 T64 := mkTy_ok (by kernel_rfl)
noncomputable def T65 : TyI := ⟨Tryz.t65.desc, 1, false, 8, (some .nilFunc), [], none, 0, true⟩
theorem ty65 : TyOk Tryz.prog 65 T65 := mkTy_ok (by kernel_rfl)
noncomputable def T66 : TyI := ⟨Tryz.t66.desc, 32, true, 168, (some (.agg [(.int .i64 (.lit (0))), (.int .i64 (.lit (0))), (.int .i64 (.lit (0))), (.int .i64 (.lit (0))), (.int .i64 (.lit (0))), (.int .i64 (.lit (0))), (.int .i64 (.lit (0))), (.int .i64 (.lit (0))), (.int .i64 (.lit (0))), (.bool (.lit (0))), (.bool (.lit (0))), (.bool (.lit (0))), (.bool (.lit (0))), (.bool (.lit (0))), (.bool (.lit (0))), (.bool (.lit (0))), (.bool (.lit (0))), (.int .i64 (.lit (0))), (.int .i64 (.lit (0))), (.bool (.lit (0))), (.bool (.lit (0))), (.bool (.lit (0))), (.int .i64 (.lit (0))), (.int .i64 (.lit (0))), (.int .i64 (.lit (0))), (.int .i64 (.lit (0))), (.int .i64 (.lit (0))), (.int .i64 (.lit (0))), (.int .i64 (.lit (0))), (.bool (.lit (0))), (.bool (.lit (0))), (.bool (.lit (0)))])), [⟨30, 0, 26, true, false⟩, ⟨58, 26, 6, true, false⟩], none, 0, true⟩
theorem ty66 : TyOk Tryz.prog 66 T66 := mkTy_ok (by kernel_rfl)
noncomputable def T67 : TyI := ⟨Tryz.t66.desc, 32, true, 168, (some (.agg [(.int .i64 (.lit (0))), (.int .i64 (.lit (0))), (.int .i64 (.lit (0))), (.int .i64 (.lit (0))), (.int .i64 (.lit (0))), (.int .i64 (.lit (0))), (.int .i64 (.lit (0))), (.int .i64 (.lit (0))), (.int .i64 (.lit (0))), (.bool (.lit (0))), (.bool (.lit (0))), (.bool (.lit (0))), (.bool (.lit (0))), (.bool (.lit (0))), (.bool (.lit (0))), (.bool (.lit (0))), (.bool (.lit (0))), (.int .i64 (.lit (0))), (.int .i64 (.lit (0))), (.bool (.lit (0))), (.bool (.lit (0))), (.bool (.lit (0))), (.int .i64 (.lit (0))), (.int .i64 (.lit (0))), (.int .i64 (.lit (0))), (.int .i64 (.lit (0))), (.int .i64 (.lit (0))), (.int .i64 (.lit (0))), (.int .i64 (.lit (0))), (.bool (.lit (0))), (.bool (.lit (0))), (.bool (.lit (0)))])), [⟨30, 0, 26, true, false⟩, ⟨58, 26, 6, true, false⟩], none, 0, true⟩
theorem ty67 : TyOk Tryz.prog 67 T67 := mkTy_ok (by kernel_rfl)
noncomputable def T68 : TyI := ⟨Tryz.t68.desc, 2, true, 16, (some (.agg [(.int .i64 (.lit (0))), (.int .i64 (.lit (0)))])), [⟨3, 0, 1, false, false⟩, ⟨3, 1, 1, false, false⟩], none, 0, true⟩
theorem ty68 : TyOk Tryz.prog 68 T68 := mkTy_ok (by kernel_rfl)
noncomputable def T69 : TyI := ⟨Tryz.t68.desc, 2, true, 16, (some (.agg [(.int .i64 (.lit (0))), (.int .i64 (.lit (0)))])), [⟨3, 0, 1, false, false⟩, ⟨3, 1, 1, false, false⟩], none, 0, true⟩
theorem ty69 : TyOk Tryz.prog 69 T69 := mkTy_ok (by kernel_rfl)
noncomputable def T70 : TyI := ⟨Tryz.t70.desc, 1, false, 8, (some .nilFunc), [], none, 0, true⟩
theorem ty70 : TyOk Tryz.prog 70 T70 := mkTy_ok (by kernel_rfl)
noncomputable def T71 : TyI := ⟨Tryz.t71.desc, 1, false, 8, (some .nilFunc), [], none, 0, true⟩
theorem ty71 : TyOk Tryz.prog 71 T71 := mkTy_ok (by kernel_rfl)
noncomputable def T72 : TyI := ⟨Tryz.t72.desc, 1, false, 8, (some .nilFunc), [], none, 0, true⟩
theorem ty72 : TyOk Tryz.prog 72 T72 := mkTy_ok (by kernel_rfl)
noncomputable def T73 : TyI := ⟨Tryz.t73.desc, 1, false, 8, (some .nilPtr), [], none, 0, true⟩
theorem ty73 : TyOk Tryz.prog 73 T73 := mkTy_ok (by kernel_rfl)
noncomputable def T74 : TyI := ⟨Tryz.t74.desc, 1, false, 0, (some (.tuple [.nilPtr, (.int .i64 (.lit (0)))])), [], none, 0, true⟩
theorem ty74 : TyOk Tryz.prog 74 T74 := mkTy_ok (by kernel_rfl)
noncomputable def T75 : TyI := ⟨Tryz.t75.desc, 1, false, 8, (some .nilFunc), [], none, 0, true⟩
theorem ty75 : TyOk Tryz.prog 75 T75 := mkTy_ok (by kernel_rfl)
noncomputable def T76 : TyI := ⟨Tryz.t76.desc, 1, false, 8, (some .nilFunc), [], none, 0, true⟩
theorem ty76 : TyOk Tryz.prog 76 T76 := mkTy_ok (by kernel_rfl)
noncomputable def T77 : TyI := ⟨Tryz.t77.desc, 1, false, 8, (some .nilFunc), [], none, 0, true⟩
theorem ty77 : TyOk Tryz.prog 77 T77 := mkTy_ok (by kernel_rfl)
noncomputable def T78 : TyI := ⟨Tryz.t78.desc, 1, false, 8, (some .nilMap), [], none, 0, true⟩
theorem ty78 : TyOk Tryz.prog 78 T78 := mkTy_ok (by kernel_rfl)
noncomputable def T79 : TyI := ⟨Tryz.t79.desc, 3, true, 56, (some (.agg [.nilSlice, .nilMap, .nilSlice])), [⟨51, 0, 1, false, false⟩, ⟨78, 1, 1, false, false⟩, ⟨54, 2, 1, false, false⟩], none, 0, true⟩
theorem ty79 : TyOk Tryz.prog 79 T79 := mkTy_ok (by kernel_rfl)
noncomputable def T80 : TyI := ⟨Tryz.t79.desc, 3, true, 56, (some (.agg [.nilSlice, .nilMap, .nilSlice])), [⟨51, 0, 1, false, false⟩, ⟨78, 1, 1, false, false⟩, ⟨54, 2, 1, false, false⟩], none, 0, true⟩
theorem ty80 : TyOk Tryz.prog 80 T80 := mkTy_ok (by kernel_rfl)
noncomputable def T81 : TyI := ⟨Tryz.t81.desc, 24, true, 128, (some (.agg [(.int .i64 (.lit (0))), (.int .i64 (.lit (0))), (.int .i64 (.lit (0))), (.bool (.lit (0))), (.bool (.lit (0))), (.bool (.lit (0))), (.int .i64 (.lit (0))), (.int .i64 (.lit (0))), (.int .i64 (.lit (0))), (.bool (.lit (0))), (.bool (.lit (0))), (.bool (.lit (0))), (.int .i64 (.lit (0))), (.int .i64 (.lit (0))), (.int .i64 (.lit (0))), (.bool (.lit (0))), (.bool (.lit (0))), (.bool (.lit (0))), (.int .i64 (.lit (0))), (.int .i64 (.lit (0))), (.int .i64 (.lit (0))), (.bool (.lit (0))), (.bool (.lit (0))), (.bool (.lit (0)))])), [], (some ⟨58, 0, 6, true, false⟩), 4, true⟩
theorem ty81 : TyOk Tryz.prog 81 T81 := mkTy_ok (by kernel_rfl)
noncomputable def T82 : TyI := ⟨Tryz.t82.desc, 1, false, 8, (some .nilFunc), [], none, 0, true⟩
theorem ty82 : TyOk Tryz.prog 82 T82 := mkTy_ok (by kernel_rfl)
noncomputable def T83 : TyI := ⟨Tryz.t83.desc, 1, false, 8, (some .nilFunc), [], none, 0, true⟩
theorem ty83 : TyOk Tryz.prog 83 T83 := mkTy_ok (by kernel_rfl)
noncomputable def T84 : TyI := ⟨Tryz.t84.desc, 1, false, 8, (some .nilFunc), [], none, 0, true⟩
theorem ty84 : TyOk Tryz.prog 84 T84 := mkTy_ok (by kernel_rfl)
noncomputable def T85 : TyI := ⟨Tryz.t85.desc, 1, false, 8, (some .nilFunc), [], none, 0, true⟩
theorem ty85 : TyOk Tryz.prog 85 T85 := mkTy_ok (by kernel_rfl)
noncomputable def T86 : TyI := ⟨Tryz.t86.desc, 1, false, 24, (some .nilSlice), [], (some ⟨39, 0, 4, true, false⟩), 0, true⟩
theorem ty86 : TyOk Tryz.prog 86 T86 := mkTy_ok (by kernel_rfl)
noncomputable def T87 : TyI := ⟨Tryz.t87.desc, 1, false, 8, (some .nilFunc), [], none, 0, true⟩
theorem ty87 : TyOk Tryz.prog 87 T87 := mkTy_ok (by kernel_rfl)
noncomputable def T88 : TyI := ⟨Tryz.t88.desc, 1, false, 8, (some .nilFunc), [], none, 0, true⟩
theorem ty88 : TyOk Tryz.prog 88 T88 := mkTy_ok (by kernel_rfl)
noncomputable def T89 : TyI := ⟨Tryz.t88.desc, 1, false, 8, (some .nilFunc), [], none, 0, true⟩
theorem ty89 : TyOk Tryz.prog 89 T89 := mkTy_ok (by kernel_rfl)
noncomputable def T90 : TyI := ⟨Tryz.t90.desc, 1, false, 8, (some .nilFunc), [], none, 0, true⟩
theorem ty90 : TyOk Tryz.prog 90 T90 := mkTy_ok (by kernel_rfl)
noncomputable def T91 : TyI := ⟨Tryz.t91.desc, 1, false, 8, (some .nilFunc), [], none, 0, true⟩
theorem ty91 : TyOk Tryz.prog 91 T91 := mkTy_ok (by kernel_rfl)
noncomputable def T92 : TyI := ⟨Tryz.t92.desc, 1, false, 8, (some .nilFunc), [], none, 0, true⟩
theorem ty92 : TyOk Tryz.prog 92 T92 := mkTy_ok (by kernel_rfl)
noncomputable def T93 : TyI := ⟨Tryz.t93.desc, 1, false, 8, (some .nilFunc), [], none, 0, true⟩
theorem ty93 : TyOk Tryz.prog 93 T93 := mkTy_ok (by kernel_rfl)
noncomputable def T94 : TyI := ⟨Tryz.t94.desc, 1, false, 8, (some .nilFunc), [], none, 0, true⟩
theorem ty94 : TyOk Tryz.prog 94 T94 := mkTy_ok (by kernel_rfl)
noncomputable def T95 : TyI := ⟨Tryz.t95.desc, 1, false, 8, (some .nilFunc), [], none, 0, true⟩
theorem ty95 : TyOk Tryz.prog 95 T95 := mkTy_ok (by kernel_rfl)
noncomputable def T96 : TyI := ⟨Tryz.t96.desc, 20, true, 160, (some (.agg [(.int .i64 (.lit (0))), (.int .i64 (.lit (0))), (.int .i64 (.lit (0))), (.int .i64 (.lit (0))), (.int .i64 (.lit (0))), (.int .i64 (.lit (0))), (.int .i64 (.lit (0))), (.int .i64 (.lit (0))), (.int .i64 (.lit (0))), (.int .i64 (.lit (0))), (.int .i64 (.lit (0))), (.int .i64 (.lit (0))), (.int .i64 (.lit (0))), (.int .i64 (.lit (0))), (.int .i64 (.lit (0))), (.int .i64 (.lit (0))), (.int .i64 (.lit (0))), (.int .i64 (.lit (0))), (.int .i64 (.lit (0))), (.int .i64 (.lit (0)))])), [], (some ⟨2, 0, 1, false, false⟩), 20, true⟩
theorem ty96 : TyOk Tryz.prog 96 T96 := mkTy_ok (by kernel_rfl)
noncomputable def T97 : TyI := ⟨Tryz.t97.desc, 1, false, 8, (some .nilFunc), [], none, 0, true⟩
theorem ty97 : TyOk Tryz.prog 97 T97 := mkTy_ok (by kernel_rfl)
noncomputable def T98 : TyI := ⟨Tryz.t98.desc, 1, false, 8, (some .nilFunc), [], none, 0, true⟩
theorem ty98 : TyOk Tryz.prog 98 T98 := mkTy_ok (by kernel_rfl)
noncomputable def T99 : TyI := ⟨Tryz.t99.desc, 1, false, 8, (some .nilFunc), [], none, 0, true⟩
theorem ty99 : TyOk Tryz.prog 99 T99 := mkTy_ok (by kernel_rfl)
noncomputable def T100 : TyI := ⟨Tryz.t100.desc, 1, false, 8, (some .nilFunc), [], none, 0, true⟩
theorem ty100 : TyOk Tryz.prog 100 T100 := mkTy_ok (by kernel_rfl)
noncomputable def T101 : TyI := ⟨Tryz.t101.desc, 1, false, 8, (some .nilFunc), [], none, 0, true⟩
theorem ty101 : TyOk Tryz.prog 101 T101 := mkTy_ok (by kernel_rfl)
noncomputable def T102 : TyI := ⟨Tryz.t102.desc, 1, false, 0, (some (.tuple [(.int .i64 (.lit (0))), (.bool (.lit (0)))])), [], none, 0, true⟩
theorem ty102 : TyOk Tryz.prog 102 T102 := mkTy_ok (by kernel_rfl)
noncomputable def T103 : TyI := ⟨Tryz.t103.desc, 1, false, 8, (some .nilFunc), [], none, 0, true⟩
theorem ty103 : TyOk Tryz.prog 103 T103 := mkTy_ok (by kernel_rfl)
noncomputable def T104 : TyI := ⟨Tryz.t104.desc, 1, false, 8, (some .nilPtr), [], none, 0, true⟩
theorem ty104 : TyOk Tryz.prog 104 T104 := mkTy_ok (by kernel_rfl)
noncomputable def T105 : TyI := ⟨Tryz.t105.desc, 2, true, 16, (some (.agg [(.int .i64 (.lit (0))), (.int .i64 (.lit (0)))])), [⟨2, 0, 1, false, false⟩, ⟨2, 1, 1, false, false⟩], none, 0, true⟩
theorem ty105 : TyOk Tryz.prog 105 T105 := mkTy_ok (by kernel_rfl)
noncomputable def T106 : TyI := ⟨Tryz.t105.desc, 2, true, 16, (some (.agg [(.int .i64 (.lit (0))), (.int .i64 (.lit (0)))])), [⟨2, 0, 1, false, false⟩, ⟨2, 1, 1, false, false⟩], none, 0, true⟩
theorem ty106 : TyOk Tryz.prog 106 T106 := mkTy_ok (by kernel_rfl)
noncomputable def T107 : TyI := ⟨Tryz.t107.desc, 1, false, 0, (some (.tuple [(.agg [(.int .i64 (.lit (0))), (.int .i64 (.lit (0)))]), (.int .i64 (.lit (0)))])), [], none, 0, true⟩
theorem ty107 : TyOk Tryz.prog 107 T107 := mkTy_ok (by kernel_rfl)
noncomputable def T108 : TyI := ⟨Tryz.t108.desc, 1, false, 8, (some .nilFunc), [], none, 0, true⟩
theorem ty108 : TyOk Tryz.prog 108 T108 := mkTy_ok (by kernel_rfl)
noncomputable def T109 : TyI := ⟨Tryz.t109.desc, 1, false, 8, (some .nilFunc), [], none, 0, true⟩
theorem ty109 : TyOk Tryz.prog 109 T109 := mkTy_ok (by kernel_rfl)
noncomputable def T110 : TyI := ⟨Tryz.t110.desc, 1, false, 8, (some .nilFunc), [], none, 0, true⟩
theorem ty110 : TyOk Tryz.prog 110 T110 := mkTy_ok (by kernel_rfl)
noncomputable def T111 : TyI := ⟨Tryz.t111.desc, 1, false, 8, (some .nilFunc), [], none, 0, true⟩
theorem ty111 : TyOk Tryz.prog 111 T111 := mkTy_ok (by kernel_rfl)
noncomputable def T112 : TyI := ⟨Tryz.t112.desc, 1, false, 8, (some .nilFunc), [], none, 0, true⟩
theorem ty112 : TyOk Tryz.prog 112 T112 := mkTy_ok (by kernel_rfl)
noncomputable def T113 : TyI := ⟨Tryz.t113.desc, 1, false, 8, (some .nilFunc), [], none, 0, true⟩
theorem ty113 : TyOk Tryz.prog 113 T113 := mkTy_ok (by kernel_rfl)
noncomputable def T114 : TyI := ⟨Tryz.t114.desc, 1, false, 8, (some .nilPtr), [], none, 0, true⟩
theorem ty114 : TyOk Tryz.prog 114 T114 := mkTy_ok (by kernel_rfl)
noncomputable def T115 : TyI := ⟨Tryz.t115.desc, 6, true, 32, (some (.agg [.nilPtr, (.int .i64 (.lit (0))), (.int .i64 (.lit (0))), (.bool (.lit (0))), (.bool (.lit (0))), (.bool (.lit (0)))])), [⟨62, 0, 1, false, false⟩, ⟨3, 1, 1, false, false⟩, ⟨3, 2, 1, false, false⟩, ⟨4, 3, 1, false, false⟩, ⟨4, 4, 1, false, false⟩, ⟨4, 5, 1, false, false⟩], none, 0, true⟩
theorem ty115 : TyOk Tryz.prog 115 T115 := mkTy_ok (by kernel_rfl)
noncomputable def T116 : TyI := ⟨Tryz.t115.desc, 6, true, 32, (some (.agg [.nilPtr, (.int .i64 (.lit (0))), (.int .i64 (.lit (0))), (.bool (.lit (0))), (.bool (.lit (0))), (.bool (.lit (0)))])), [⟨62, 0, 1, false, false⟩, ⟨3, 1, 1, false, false⟩, ⟨3, 2, 1, false, false⟩, ⟨4, 3, 1, false, false⟩, ⟨4, 4, 1, false, false⟩, ⟨4, 5, 1, false, false⟩], none, 0, true⟩
theorem ty116 : TyOk Tryz.prog 116 T116 := mkTy_ok (by kernel_rfl)
noncomputable def T117 : TyI := ⟨Tryz.t117.desc, 5, true, 40, (some (.agg [.nilFunc, .nilFunc, .nilFunc, .nilFunc, .nilFunc])), [], (some ⟨92, 0, 1, false, false⟩), 5, true⟩
theorem ty117 : TyOk Tryz.prog 117 T117 := mkTy_ok (by kernel_rfl)
noncomputable def T118 : TyI := ⟨Tryz.t118.desc, 1, false, 8, (some .nilFunc), [], none, 0, true⟩
theorem ty118 : TyOk Tryz.prog 118 T118 := mkTy_ok (by kernel_rfl)
noncomputable def T119 : TyI := ⟨Tryz.t119.desc, 1, false, 8, (some .nilMap), [], none, 0, true⟩
theorem ty119 : TyOk Tryz.prog 119 T119 := mkTy_ok (by kernel_rfl)
noncomputable def T120 : TyI := ⟨Tryz.t120.desc, 1, false, 8, (some .nilFunc), [], none, 0, true⟩
theorem ty120 : TyOk Tryz.prog 120 T120 := mkTy_ok (by kernel_rfl)
noncomputable def T121 : TyI := ⟨Tryz.t121.desc, 1, false, 8, (some .nilFunc), [], none, 0, true⟩
theorem ty121 : TyOk Tryz.prog 121 T121 := mkTy_ok (by kernel_rfl)
noncomputable def T122 : TyI := ⟨Tryz.t122.desc, 1, false, 8, (some .nilFunc), [], none, 0, true⟩
theorem ty122 : TyOk Tryz.prog 122 T122 := mkTy_ok (by kernel_rfl)
noncomputable def T123 : TyI := ⟨Tryz.t123.desc, 1, false, 8, (some .nilFunc), [], none, 0, true⟩
theorem ty123 : TyOk Tryz.prog 123 T123 := mkTy_ok (by kernel_rfl)
noncomputable def T124 : TyI := ⟨Tryz.t124.desc, 1, false, 8, (some .nilMap), [], none, 0, true⟩
theorem ty124 : TyOk Tryz.prog 124 T124 := mkTy_ok (by kernel_rfl)
noncomputable def T125 : TyI := ⟨Tryz.t125.desc, 1, false, 0, (some (.tuple [(.agg [(.int .i64 (.lit (0))), (.int .i64 (.lit (0))), (.int .i64 (.lit (0))), (.bool (.lit (0))), (.str []), (.str []), (.bool (.lit (0))), (.int .i64 (.lit (0))), (.int .i64 (.lit (0)))]), (.bool (.lit (0)))])), [], none, 0, true⟩
theorem ty125 : TyOk Tryz.prog 125 T125 := mkTy_ok (by kernel_rfl)
noncomputable def T126 : TyI := ⟨Tryz.t126.desc, 1, false, 8, (some .nilFunc), [], none, 0, true⟩
theorem ty126 : TyOk Tryz.prog 126 T126 := mkTy_ok (by kernel_rfl)
noncomputable def T127 : TyI := ⟨Tryz.t127.desc, 1, false, 8, (some .nilFunc), [], none, 0, true⟩
theorem ty127 : TyOk Tryz.prog 127 T127 := mkTy_ok (by kernel_rfl)
noncomputable def T128 : TyI := ⟨Tryz.t128.desc, 1, false, 8, (some .nilFunc), [], none, 0, true⟩
theorem ty128 : TyOk Tryz.prog 128 T128 := mkTy_ok (by kernel_rfl)
noncomputable def T129 : TyI := ⟨Tryz.t129.desc, 1, false, 8, (some .nilFunc), [], none, 0, true⟩
theorem ty129 : TyOk Tryz.prog 129 T129 := mkTy_ok (by kernel_rfl)
noncomputable def T130 : TyI := ⟨Tryz.t130.desc, 1, false, 8, (some .nilFunc), [], none, 0, true⟩
theorem ty130 : TyOk Tryz.prog 130 T130 := mkTy_ok (by kernel_rfl)
noncomputable def T131 : TyI := ⟨Tryz.t131.desc, 1, false, 24, (some .nilSlice), [], (some ⟨3, 0, 1, false, false⟩), 0, true⟩
theorem ty131 : TyOk Tryz.prog 131 T131 := mkTy_ok (by kernel_rfl)
noncomputable def T132 : TyI := ⟨Tryz.t132.desc, 1, false, 0, (some (.tuple [(.bool (.lit (0))), .nilSlice, (.int .i64 (.lit (0)))])), [], none, 0, true⟩
theorem ty132 : TyOk Tryz.prog 132 T132 := mkTy_ok (by kernel_rfl)
noncomputable def T133 : TyI := ⟨Tryz.t133.desc, 1, false, 8, (some .nilFunc), [], none, 0, true⟩
theorem ty133 : TyOk Tryz.prog 133 T133 := mkTy_ok (by kernel_rfl)
noncomputable def T134 : TyI := ⟨Tryz.t134.desc, 1, false, 24, (some .nilSlice), [], (some ⟨158, 0, 4, true, false⟩), 0, true⟩
theorem ty134 : TyOk Tryz.prog 134 T134 := mkTy_ok (by kernel_rfl)
noncomputable def T135 : TyI := ⟨Tryz.t135.desc, 3, true, 48, (some (.agg [(.str []), (.int .i64 (.lit (0))), .nilSlice])), [⟨9, 0, 1, false, false⟩, ⟨3, 1, 1, false, false⟩, ⟨134, 2, 1, false, false⟩], none, 0, true⟩
theorem ty135 : TyOk Tryz.prog 135 T135 := mkTy_ok (by kernel_rfl)
noncomputable def T136 : TyI := ⟨Tryz.t135.desc, 3, true, 48, (some (.agg [(.str []), (.int .i64 (.lit (0))), .nilSlice])), [⟨9, 0, 1, false, false⟩, ⟨3, 1, 1, false, false⟩, ⟨134, 2, 1, false, false⟩], none, 0, true⟩
theorem ty136 : TyOk Tryz.prog 136 T136 := mkTy_ok (by kernel_rfl)
noncomputable def T137 : TyI := ⟨Tryz.t137.desc, 1, false, 8, (some .nilFunc), [], none, 0, true⟩
theorem ty137 : TyOk Tryz.prog 137 T137 := mkTy_ok (by kernel_rfl)
noncomputable def T138 : TyI := ⟨Tryz.t138.desc, 4, true, 32, (some (.agg [(.int .i64 (.lit (0))), (.int .i64 (.lit (0))), (.int .i64 (.lit (0))), (.int .i64 (.lit (0)))])), [⟨3, 0, 1, false, false⟩, ⟨3, 1, 1, false, false⟩, ⟨2, 2, 1, false, false⟩, ⟨2, 3, 1, false, false⟩], none, 0, true⟩
theorem ty138 : TyOk Tryz.prog 138 T138 := mkTy_ok (by kernel_rfl)
noncomputable def T139 : TyI := ⟨Tryz.t138.desc, 4, true, 32, (some (.agg [(.int .i64 (.lit (0))), (.int .i64 (.lit (0))), (.int .i64 (.lit (0))), (.int .i64 (.lit (0)))])), [⟨3, 0, 1, false, false⟩, ⟨3, 1, 1, false, false⟩, ⟨2, 2, 1, false, false⟩, ⟨2, 3, 1, false, false⟩], none, 0, true⟩
theorem ty139 : TyOk Tryz.prog 139 T139 := mkTy_ok (by kernel_rfl)
noncomputable def T140 : TyI := ⟨Tryz.t140.desc, 1, false, 24, (some .nilSlice), [], (some ⟨139, 0, 4, true, false⟩), 0, true⟩
theorem ty140 : TyOk Tryz.prog 140 T140 := mkTy_ok (by kernel_rfl)
noncomputable def T141 : TyI := ⟨Tryz.t141.desc, 1, false, 0, (some (.tuple [(.int .i64 (.lit (0))), (.int .i64 (.lit (0)))])), [], none, 0, true⟩
theorem ty141 : TyOk Tryz.prog 141 T141 := mkTy_ok (by kernel_rfl)
noncomputable def T142 : TyI := ⟨Tryz.t142.desc, 1, false, 8, (some .nilFunc), [], none, 0, true⟩
theorem ty142 : TyOk Tryz.prog 142 T142 := mkTy_ok (by kernel_rfl)
noncomputable def T143 : TyI := ⟨Tryz.t143.desc, 1, false, 8, (some .nilFunc), [], none, 0, true⟩
theorem ty143 : TyOk Tryz.prog 143 T143 := mkTy_ok (by kernel_rfl)
noncomputable def T144 : TyI := ⟨Tryz.t144.desc, 1, false, 8, (some .nilFunc), [], none, 0, true⟩
theorem ty144 : TyOk Tryz.prog 144 T144 := mkTy_ok (by kernel_rfl)
noncomputable def T145 : TyI := ⟨Tryz.t145.desc, 1, false, 8, (some .nilMap), [], none, 0, true⟩
theorem ty145 : TyOk Tryz.prog 145 T145 := mkTy_ok (by kernel_rfl)
noncomputable def T146 : TyI := ⟨Tryz.t146.desc, 2, true, 16, (some (.agg [(.int .i64 (.lit (0))), (.int .i64 (.lit (0)))])), [⟨2, 0, 1, false, false⟩, ⟨3, 1, 1, false, false⟩], none, 0, true⟩
theorem ty146 : TyOk Tryz.prog 146 T146 := mkTy_ok (by kernel_rfl)
noncomputable def T147 : TyI := ⟨Tryz.t146.desc, 2, true, 16, (some (.agg [(.int .i64 (.lit (0))), (.int .i64 (.lit (0)))])), [⟨2, 0, 1, false, false⟩, ⟨3, 1, 1, false, false⟩], none, 0, true⟩
theorem ty147 : TyOk Tryz.prog 147 T147 := mkTy_ok (by kernel_rfl)
noncomputable def T148 : TyI := ⟨Tryz.t148.desc, 1, false, 8, (some .nilFunc), [], none, 0, true⟩
theorem ty148 : TyOk Tryz.prog 148 T148 := mkTy_ok (by kernel_rfl)
noncomputable def T149 : TyI := ⟨Tryz.t149.desc, 1, false, 8, (some .nilFunc), [], none, 0, true⟩
theorem ty149 : TyOk Tryz.prog 149 T149 := mkTy_ok (by kernel_rfl)
noncomputable def T150 : TyI := ⟨Tryz.t150.desc, 1, false, 8, (some .nilFunc), [], none, 0, true⟩
theorem ty150 : TyOk Tryz.prog 150 T150 := mkTy_ok (by kernel_rfl)
noncomputable def T151 : TyI := ⟨Tryz.t151.desc, 1, false, 8, (some .nilFunc), [], none, 0, true⟩
theorem ty151 : TyOk Tryz.prog 151 T151 := mkTy_ok (by kernel_rfl)
noncomputable def T152 : TyI := ⟨Tryz.t152.desc, 1, false, 24, (some .nilSlice), [], (some ⟨9, 0, 1, false, false⟩), 0, true⟩
theorem ty152 : TyOk Tryz.prog 152 T152 := mkTy_ok (by kernel_rfl)
noncomputable def T153 : TyI := ⟨Tryz.t153.desc, 1, false, 0, (some (.tuple [.nilSlice, (.int .i64 (.lit (0)))])), [], none, 0, true⟩
theorem ty153 : TyOk Tryz.prog 153 T153 := mkTy_ok (by kernel_rfl)
noncomputable def T154 : TyI := ⟨Tryz.t154.desc, 1, false, 8, (some .nilFunc), [], none, 0, true⟩
theorem ty154 : TyOk Tryz.prog 154 T154 := mkTy_ok (by kernel_rfl)
noncomputable def T155 : TyI := ⟨Tryz.t155.desc, 1, false, 0, (some (.tuple [.nilSlice, (.int .i64 (.lit (0)))])), [], none, 0, true⟩
theorem ty155 : TyOk Tryz.prog 155 T155 := mkTy_ok (by kernel_rfl)
noncomputable def T156 : TyI := ⟨Tryz.t156.desc, 1, false, 8, (some .nilFunc), [], none, 0, true⟩
theorem ty156 : TyOk Tryz.prog 156 T156 := mkTy_ok (by kernel_rfl)
noncomputable def T157 : TyI := ⟨Tryz.t157.desc, 4, true, 72, (some (.agg [(.int .i64 (.lit (0))), .nilSlice, .nilSlice, (.str [])])), [⟨3, 0, 1, false, false⟩, ⟨152, 1, 1, false, false⟩, ⟨152, 2, 1, false, false⟩, ⟨9, 3, 1, false, false⟩], none, 0, true⟩
theorem ty157 : TyOk Tryz.prog 157 T157 := mkTy_ok (by kernel_rfl)
noncomputable def T158 : TyI := ⟨Tryz.t157.desc, 4, true, 72, (some (.agg [(.int .i64 (.lit (0))), .nilSlice, .nilSlice, (.str [])])), [⟨3, 0, 1, false, false⟩, ⟨152, 1, 1, false, false⟩, ⟨152, 2, 1, false, false⟩, ⟨9, 3, 1, false, false⟩], none, 0, true⟩
theorem ty158 : TyOk Tryz.prog 158 T158 := mkTy_ok (by kernel_rfl)
noncomputable def T159 : TyI := ⟨Tryz.t159.desc, 2, true, 16, (some (.agg [(.int .i64 (.lit (0))), (.int .i64 (.lit (0)))])), [⟨2, 0, 1, false, false⟩, ⟨2, 1, 1, false, false⟩], none, 0, true⟩
theorem ty159 : TyOk Tryz.prog 159 T159 := mkTy_ok (by kernel_rfl)
noncomputable def T160 : TyI := ⟨Tryz.t159.desc, 2, true, 16, (some (.agg [(.int .i64 (.lit (0))), (.int .i64 (.lit (0)))])), [⟨2, 0, 1, false, false⟩, ⟨2, 1, 1, false, false⟩], none, 0, true⟩
theorem ty160 : TyOk Tryz.prog 160 T160 := mkTy_ok (by kernel_rfl)
noncomputable def T161 : TyI := ⟨Tryz.t161.desc, 1, false, 0, (some (.tuple [(.agg [(.int .i64 (.lit (0))), (.int .i64 (.lit (0)))]), (.int .i64 (.lit (0)))])), [], none, 0, true⟩
theorem ty161 : TyOk Tryz.prog 161 T161 := mkTy_ok (by kernel_rfl)
noncomputable def T162 : TyI := ⟨Tryz.t162.desc, 1, false, 8, (some .nilFunc), [], none, 0, true⟩
theorem ty162 : TyOk Tryz.prog 162 T162 := mkTy_ok (by kernel_rfl)
noncomputable def T163 : TyI := ⟨Tryz.t163.desc, 1, false, 0, (some (.tuple [(.bool (.lit (0))), (.int .i64 (.lit (0)))])), [], none, 0, true⟩
theorem ty163 : TyOk Tryz.prog 163 T163 := mkTy_ok (by kernel_rfl)
noncomputable def T164 : TyI := ⟨Tryz.t164.desc, 1, false, 8, (some .nilFunc), [], none, 0, true⟩
theorem ty164 : TyOk Tryz.prog 164 T164 := mkTy_ok (by kernel_rfl)
noncomputable def T165 : TyI := ⟨Tryz.t165.desc, 1, false, 24, (some .nilSlice), [], (some ⟨221, 0, 5, true, false⟩), 0, true⟩
theorem ty165 : TyOk Tryz.prog 165 T165 := mkTy_ok (by kernel_rfl)
noncomputable def T166 : TyI := ⟨Tryz.t166.desc, 2, true, 16, (some (.agg [(.int .i64 (.lit (0))), (.int .i64 (.lit (0)))])), [⟨2, 0, 1, false, false⟩, ⟨2, 1, 1, false, false⟩], none, 0, true⟩
theorem ty166 : TyOk Tryz.prog 166 T166 := mkTy_ok (by kernel_rfl)
noncomputable def T167 : TyI := ⟨Tryz.t166.desc, 2, true, 16, (some (.agg [(.int .i64 (.lit (0))), (.int .i64 (.lit (0)))])), [⟨2, 0, 1, false, false⟩, ⟨2, 1, 1, false, false⟩], none, 0, true⟩
theorem ty167 : TyOk Tryz.prog 167 T167 := mkTy_ok (by kernel_rfl)
noncomputable def T168 : TyI := ⟨Tryz.t168.desc, 3, true, 24, (some (.agg [(.int .i64 (.lit (0))), (.int .i64 (.lit (0))), (.int .i64 (.lit (0)))])), [⟨167, 0, 2, true, false⟩, ⟨2, 2, 1, false, false⟩], none, 0, true⟩
theorem ty168 : TyOk Tryz.prog 168 T168 := mkTy_ok (by kernel_rfl)
noncomputable def T169 : TyI := ⟨Tryz.t168.desc, 3, true, 24, (some (.agg [(.int .i64 (.lit (0))), (.int .i64 (.lit (0))), (.int .i64 (.lit (0)))])), [⟨167, 0, 2, true, false⟩, ⟨2, 2, 1, false, false⟩], none, 0, true⟩
theorem ty169 : TyOk Tryz.prog 169 T169 := mkTy_ok (by kernel_rfl)
noncomputable def T170 : TyI := ⟨Tryz.t170.desc, 1, false, 24, (some .nilSlice), [], (some ⟨223, 0, 3, true, false⟩), 0, true⟩
theorem ty170 : TyOk Tryz.prog 170 T170 := mkTy_ok (by kernel_rfl)
noncomputable def T171 : TyI := ⟨Tryz.t171.desc, 11, true, 128, (some (.agg [(.str []), (.int .i64 (.lit (0))), (.int .i64 (.lit (0))), (.int .i64 (.lit (0))), .nilSlice, (.int .i64 (.lit (0))), (.int .i64 (.lit (0))), (.int .i64 (.lit (0))), (.int .i64 (.lit (0))), (.int .i64 (.lit (0))), .nilSlice])), [⟨9, 0, 1, false, false⟩, ⟨2, 1, 1, false, false⟩, ⟨2, 2, 1, false, false⟩, ⟨2, 3, 1, false, false⟩, ⟨165, 4, 1, false, false⟩, ⟨169, 5, 3, true, false⟩, ⟨3, 8, 1, false, false⟩, ⟨3, 9, 1, false, false⟩, ⟨170, 10, 1, false, false⟩], none, 0, true⟩
theorem ty171 : TyOk Tryz.prog 171 T171 := mkTy_ok (by kernel_rfl)
noncomputable def T172 : TyI := ⟨Tryz.t171.desc, 11, true, 128, (some (.agg [(.str []), (.int .i64 (.lit (0))), (.int .i64 (.lit (0))), (.int .i64 (.lit (0))), .nilSlice, (.int .i64 (.lit (0))), (.int .i64 (.lit (0))), (.int .i64 (.lit (0))), (.int .i64 (.lit (0))), (.int .i64 (.lit (0))), .nilSlice])), [⟨9, 0, 1, false, false⟩, ⟨2, 1, 1, false, false⟩, ⟨2, 2, 1, false, false⟩, ⟨2, 3, 1, false, false⟩, ⟨165, 4, 1, false, false⟩, ⟨169, 5, 3, true, false⟩, ⟨3, 8, 1, false, false⟩, ⟨3, 9, 1, false, false⟩, ⟨170, 10, 1, false, false⟩], none, 0, true⟩
theorem ty172 : TyOk Tryz.prog 172 T172 := mkTy_ok (by kernel_rfl)
noncomputable def T173 : TyI := ⟨Tryz.t173.desc, 1, false, 8, (some .nilFunc), [], none, 0, true⟩
theorem ty173 : TyOk Tryz.prog 173 T173 := mkTy_ok (by kernel_rfl)
noncomputable def T174 : TyI := ⟨Tryz.t174.desc, 6, true, 48, (some (.agg [(.int .i64 (.lit (0))), (.int .i64 (.lit (0))), (.int .i64 (.lit (0))), (.int .i64 (.lit (0))), (.int .i64 (.lit (0))), (.int .i64 (.lit (0)))])), [⟨167, 0, 2, true, false⟩, ⟨167, 2, 2, true, false⟩, ⟨167, 4, 2, true, false⟩], none, 0, true⟩
theorem ty174 : TyOk Tryz.prog 174 T174 := mkTy_ok (by kernel_rfl)
noncomputable def T175 : TyI := ⟨Tryz.t174.desc, 6, true, 48, (some (.agg [(.int .i64 (.lit (0))), (.int .i64 (.lit (0))), (.int .i64 (.lit (0))), (.int .i64 (.lit (0))), (.int .i64 (.lit (0))), (.int .i64 (.lit (0)))])), [⟨167, 0, 2, true, false⟩, ⟨167, 2, 2, true, false⟩, ⟨167, 4, 2, true, false⟩], none, 0, true⟩
theorem ty175 : TyOk Tryz.prog 175 T175 := mkTy_ok (by kernel_rfl)
noncomputable def T176 : TyI := ⟨Tryz.t176.desc, 1, false, 0, (some (.tuple [(.agg [(.int .i64 (.lit (0))), (.int .i64 (.lit (0))), (.int .i64 (.lit (0))), (.int .i64 (.lit (0))), (.int .i64 (.lit (0))), (.int .i64 (.lit (0)))]), (.int .i64 (.lit (0)))])), [], none, 0, true⟩
theorem ty176 : TyOk Tryz.prog 176 T176 := mkTy_ok (by kernel_rfl)
noncomputable def T177 : TyI := ⟨Tryz.t177.desc, 1, false, 8, (some .nilFunc), [], none, 0, true⟩
theorem ty177 : TyOk Tryz.prog 177 T177 := mkTy_ok (by kernel_rfl)
noncomputable def T178 : TyI := ⟨Tryz.t178.desc, 2, true, 16, (some (.agg [(.int .i64 (.lit (0))), (.int .i64 (.lit (0)))])), [⟨2, 0, 1, false, false⟩, ⟨2, 1, 1, false, false⟩], none, 0, true⟩
theorem ty178 : TyOk Tryz.prog 178 T178 := mkTy_ok (by kernel_rfl)
noncomputable def T179 : TyI := ⟨Tryz.t178.desc, 2, true, 16, (some (.agg [(.int .i64 (.lit (0))), (.int .i64 (.lit (0)))])), [⟨2, 0, 1, false, false⟩, ⟨2, 1, 1, false, false⟩], none, 0, true⟩
theorem ty179 : TyOk Tryz.prog 179 T179 := mkTy_ok (by kernel_rfl)
noncomputable def T180 : TyI := ⟨Tryz.t180.desc, 1, false, 8, (some .nilFunc), [], none, 0, true⟩
theorem ty180 : TyOk Tryz.prog 180 T180 := mkTy_ok (by kernel_rfl)
noncomputable def T181 : TyI := ⟨Tryz.t181.desc, 1, false, 24, (some .nilSlice), [], (some ⟨179, 0, 2, true, false⟩), 0, true⟩
theorem ty181 : TyOk Tryz.prog 181 T181 := mkTy_ok (by kernel_rfl)
noncomputable def T182 : TyI := ⟨Tryz.t182.desc, 2, true, 16, (some (.agg [(.int .i64 (.lit (0))), (.int .i64 (.lit (0)))])), [⟨2, 0, 1, false, false⟩, ⟨2, 1, 1, false, false⟩], none, 0, true⟩
theorem ty182 : TyOk Tryz.prog 182 T182 := mkTy_ok (by kernel_rfl)
noncomputable def T183 : TyI := ⟨Tryz.t182.desc, 2, true, 16, (some (.agg [(.int .i64 (.lit (0))), (.int .i64 (.lit (0)))])), [⟨2, 0, 1, false, false⟩, ⟨2, 1, 1, false, false⟩], none, 0, true⟩
theorem ty183 : TyOk Tryz.prog 183 T183 := mkTy_ok (by kernel_rfl)
noncomputable def T184 : TyI := ⟨Tryz.t184.desc, 14, true, 168, (some (.agg [(.str []), (.int .i64 (.lit (0))), (.int .i64 (.lit (0))), (.int .i64 (.lit (0))), .nilSlice, (.int .i64 (.lit (0))), (.int .i64 (.lit (0))), (.int .i64 (.lit (0))), (.int .i64 (.lit (0))), (.int .i64 (.lit (0))), .nilSlice, .nilSlice, (.int .i64 (.lit (0))), (.int .i64 (.lit (0)))])), [⟨172, 0, 11, true, false⟩, ⟨181, 11, 1, false, false⟩, ⟨183, 12, 2, true, false⟩], none, 0, true⟩
theorem ty184 : TyOk Tryz.prog 184 T184 := mkTy_ok (by kernel_rfl)
noncomputable def T185 : TyI := ⟨Tryz.t184.desc, 14, true, 168, (some (.agg [(.str []), (.int .i64 (.lit (0))), (.int .i64 (.lit (0))), (.int .i64 (.lit (0))), .nilSlice, (.int .i64 (.lit (0))), (.int .i64 (.lit (0))), (.int .i64 (.lit (0))), (.int .i64 (.lit (0))), (.int .i64 (.lit (0))), .nilSlice, .nilSlice, (.int .i64 (.lit (0))), (.int .i64 (.lit (0)))])), [⟨172, 0, 11, true, false⟩, ⟨181, 11, 1, false, false⟩, ⟨183, 12, 2, true, false⟩], none, 0, true⟩
theorem ty185 : TyOk Tryz.prog 185 T185 := mkTy_ok (by kernel_rfl)
noncomputable def T186 : TyI := ⟨Tryz.t186.desc, 1, false, 24, (some .nilSlice), [], (some ⟨175, 0, 6, true, false⟩), 0, true⟩
theorem ty186 : TyOk Tryz.prog 186 T186 := mkTy_ok (by kernel_rfl)
noncomputable def T187 : TyI := ⟨Tryz.t187.desc, 1, false, 24, (some .nilSlice), [], (some ⟨4, 0, 1, false, false⟩), 0, true⟩
theorem ty187 : TyOk Tryz.prog 187 T187 := mkTy_ok (by kernel_rfl)
noncomputable def T188 : TyI := ⟨Tryz.t188.desc, 5, true, 72, (some (.agg [.nilSlice, .nilSlice, (.int .i64 (.lit (0))), (.int .i64 (.lit (0))), (.int .i64 (.lit (0)))])), [⟨186, 0, 1, false, false⟩, ⟨187, 1, 1, false, false⟩, ⟨3, 2, 1, false, false⟩, ⟨3, 3, 1, false, false⟩, ⟨3, 4, 1, false, false⟩], none, 0, true⟩
theorem ty188 : TyOk Tryz.prog 188 T188 := mkTy_ok (by kernel_rfl)
noncomputable def T189 : TyI := ⟨Tryz.t188.desc, 5, true, 72, (some (.agg [.nilSlice, .nilSlice, (.int .i64 (.lit (0))), (.int .i64 (.lit (0))), (.int .i64 (.lit (0)))])), [⟨186, 0, 1, false, false⟩, ⟨187, 1, 1, false, false⟩, ⟨3, 2, 1, false, false⟩, ⟨3, 3, 1, false, false⟩, ⟨3, 4, 1, false, false⟩], none, 0, true⟩
theorem ty189 : TyOk Tryz.prog 189 T189 := mkTy_ok (by kernel_rfl)
noncomputable def T190 : TyI := ⟨Tryz.t190.desc, 1, false, 0, (some (.tuple [(.agg [(.str []), (.int .i64 (.lit (0))), (.int .i64 (.lit (0))), (.int .i64 (.lit (0))), .nilSlice, (.int .i64 (.lit (0))), (.int .i64 (.lit (0))), (.int .i64 (.lit (0))), (.int .i64 (.lit (0))), (.int .i64 (.lit (0))), .nilSlice, .nilSlice, (.int .i64 (.lit (0))), (.int .i64 (.lit (0)))]), (.agg [.nilSlice, .nilSlice, (.int .i64 (.lit (0))), (.int .i64 (.lit (0))), (.int .i64 (.lit (0)))]), (.bool (.lit (0)))])), [], none, 0, true⟩
theorem ty190 : TyOk Tryz.prog 190 T190 := mkTy_ok (by kernel_rfl)
noncomputable def T191 : TyI := ⟨Tryz.t191.desc, 1, false, 8, (some .nilFunc), [], none, 0, true⟩
theorem ty191 : TyOk Tryz.prog 191 T191 := mkTy_ok (by kernel_rfl)
noncomputable def T192 : TyI := ⟨Tryz.t192.desc, 1, false, 2, (some (.int .u16 (.lit (0)))), [], none, 0, true⟩
theorem ty192 : TyOk Tryz.prog 192 T192 := mkTy_ok (by kernel_rfl)
noncomputable def T193 : TyI := ⟨Tryz.t193.desc, 2, true, 4, (some (.agg [(.int .u16 (.lit (0))), (.int .u16 (.lit (0)))])), [⟨192, 0, 1, false, false⟩, ⟨192, 1, 1, false, false⟩], none, 0, true⟩
theorem ty193 : TyOk Tryz.prog 193 T193 := mkTy_ok (by kernel_rfl)
noncomputable def T194 : TyI := ⟨Tryz.t193.desc, 2, true, 4, (some (.agg [(.int .u16 (.lit (0))), (.int .u16 (.lit (0)))])), [⟨192, 0, 1, false, false⟩, ⟨192, 1, 1, false, false⟩], none, 0, true⟩
theorem ty194 : TyOk Tryz.prog 194 T194 := mkTy_ok (by kernel_rfl)
noncomputable def T195 : TyI := ⟨Tryz.t195.desc, 1, false, 24, (some .nilSlice), [], (some ⟨194, 0, 2, true, false⟩), 0, true⟩
theorem ty195 : TyOk Tryz.prog 195 T195 := mkTy_ok (by kernel_rfl)
noncomputable def T196 : TyI := ⟨Tryz.t196.desc, 1, false, 8, (some .nilFunc), [], none, 0, true⟩
theorem ty196 : TyOk Tryz.prog 196 T196 := mkTy_ok (by kernel_rfl)
noncomputable def T197 : TyI := ⟨Tryz.t197.desc, 1, false, 8, (some .nilFunc), [], none, 0, true⟩
theorem ty197 : TyOk Tryz.prog 197 T197 := mkTy_ok (by kernel_rfl)
noncomputable def T198 : TyI := ⟨Tryz.t198.desc, 1, false, 8, (some .nilFunc), [], none, 0, true⟩
theorem ty198 : TyOk Tryz.prog 198 T198 := mkTy_ok (by kernel_rfl)
noncomputable def T199 : TyI := ⟨Tryz.t199.desc, 1, false, 8, (some .nilFunc), [], none, 0, true⟩
theorem ty199 : TyOk Tryz.prog 199 T199 := mkTy_ok (by kernel_rfl)
noncomputable def T200 : TyI := ⟨Tryz.t200.desc, 1, false, 8, (some .nilFunc), [], none, 0, true⟩
theorem ty200 : TyOk Tryz.prog 200 T200 := mkTy_ok (by kernel_rfl)
noncomputable def T201 : TyI := ⟨Tryz.t201.desc, 1, false, 8, (some .nilPtr), [], none, 0, true⟩
theorem ty201 : TyOk Tryz.prog 201 T201 := mkTy_ok (by kernel_rfl)
noncomputable def T202 : TyI := ⟨Tryz.t202.desc, 6, true, 144, (some (.agg [.nilSlice, .nilSlice, .nilSlice, .nilSlice, .nilSlice, .nilSlice])), [], (some ⟨140, 0, 1, false, false⟩), 6, true⟩
theorem ty202 : TyOk Tryz.prog 202 T202 := mkTy_ok (by kernel_rfl)
noncomputable def T203 : TyI := ⟨Tryz.t203.desc, 8, true, 160, (some (.agg [.nilSlice, .nilSlice, .nilSlice, .nilSlice, .nilSlice, .nilSlice, (.int .i64 (.lit (0))), (.int .i64 (.lit (0)))])), [⟨202, 0, 6, true, false⟩, ⟨3, 6, 1, false, false⟩, ⟨2, 7, 1, false, false⟩], none, 0, true⟩
theorem ty203 : TyOk Tryz.prog 203 T203 := mkTy_ok (by kernel_rfl)
noncomputable def T204 : TyI := ⟨Tryz.t203.desc, 8, true, 160, (some (.agg [.nilSlice, .nilSlice, .nilSlice, .nilSlice, .nilSlice, .nilSlice, (.int .i64 (.lit (0))), (.int .i64 (.lit (0)))])), [⟨202, 0, 6, true, false⟩, ⟨3, 6, 1, false, false⟩, ⟨2, 7, 1, false, false⟩], none, 0, true⟩
theorem ty204 : TyOk Tryz.prog 204 T204 := mkTy_ok (by kernel_rfl)
noncomputable def T205 : TyI := ⟨Tryz.t205.desc, 1, false, 24, (some .nilSlice), [], (some ⟨209, 0, 2, true, false⟩), 0, true⟩
theorem ty205 : TyOk Tryz.prog 205 T205 := mkTy_ok (by kernel_rfl)
noncomputable def T206 : TyI := ⟨Tryz.t206.desc, 1, false, 8, (some .nilFunc), [], none, 0, true⟩
theorem ty206 : TyOk Tryz.prog 206 T206 := mkTy_ok (by kernel_rfl)
noncomputable def T207 : TyI := ⟨Tryz.t207.desc, 1, false, 8, (some .nilFunc), [], none, 0, true⟩
theorem ty207 : TyOk Tryz.prog 207 T207 := mkTy_ok (by kernel_rfl)
noncomputable def T208 : TyI := ⟨Tryz.t208.desc, 2, true, 24, (some (.agg [(.str []), .nilFunc])), [⟨9, 0, 1, false, false⟩, ⟨207, 1, 1, false, false⟩], none, 0, true⟩
theorem ty208 : TyOk Tryz.prog 208 T208 := mkTy_ok (by kernel_rfl)
noncomputable def T209 : TyI := ⟨Tryz.t208.desc, 2, true, 24, (some (.agg [(.str []), .nilFunc])), [⟨9, 0, 1, false, false⟩, ⟨207, 1, 1, false, false⟩], none, 0, true⟩
theorem ty209 : TyOk Tryz.prog 209 T209 := mkTy_ok (by kernel_rfl)
noncomputable def T210 : TyI := ⟨Tryz.t210.desc, 1, false, 8, (some .nilFunc), [], none, 0, true⟩
theorem ty210 : TyOk Tryz.prog 210 T210 := mkTy_ok (by kernel_rfl)
noncomputable def T211 : TyI := ⟨Tryz.t211.desc, 1, false, 8, (some .nilPtr), [], none, 0, true⟩
theorem ty211 : TyOk Tryz.prog 211 T211 := mkTy_ok (by kernel_rfl)
noncomputable def T212 : TyI := ⟨Tryz.t212.desc, 1, false, 8, (some .nilFunc), [], none, 0, true⟩
theorem ty212 : TyOk Tryz.prog 212 T212 := mkTy_ok (by kernel_rfl)
noncomputable def T213 : TyI := ⟨Tryz.t213.desc, 6, true, 104, (some (.agg [(.str []), (.int .i64 (.lit (0))), .nilSlice, .nilMap, .nilSlice, .nilSlice])), [⟨136, 0, 3, true, false⟩, ⟨119, 3, 1, false, false⟩, ⟨152, 4, 1, false, false⟩, ⟨134, 5, 1, false, false⟩], none, 0, true⟩
theorem ty213 : TyOk Tryz.prog 213 T213 := mkTy_ok (by kernel_rfl)
noncomputable def T214 : TyI := ⟨Tryz.t213.desc, 6, true, 104, (some (.agg [(.str []), (.int .i64 (.lit (0))), .nilSlice, .nilMap, .nilSlice, .nilSlice])), [⟨136, 0, 3, true, false⟩, ⟨119, 3, 1, false, false⟩, ⟨152, 4, 1, false, false⟩, ⟨134, 5, 1, false, false⟩], none, 0, true⟩
theorem ty214 : TyOk Tryz.prog 214 T214 := mkTy_ok (by kernel_rfl)
noncomputable def T215 : TyI := ⟨Tryz.t215.desc, 1, false, 8, (some .nilMap), [], none, 0, true⟩
theorem ty215 : TyOk Tryz.prog 215 T215 := mkTy_ok (by kernel_rfl)
noncomputable def T216 : TyI := ⟨Tryz.t216.desc, 1, false, 8, (some .nilFunc), [], none, 0, true⟩
theorem ty216 : TyOk Tryz.prog 216 T216 := mkTy_ok (by kernel_rfl)
noncomputable def T217 : TyI := ⟨Tryz.t217.desc, 1, false, 8, (some .nilFunc), [], none, 0, true⟩
theorem ty217 : TyOk Tryz.prog 217 T217 := mkTy_ok (by kernel_rfl)
noncomputable def T218 : TyI := ⟨Tryz.t218.desc, 1, false, 8, (some .nilFunc), [], none, 0, true⟩
theorem ty218 : TyOk Tryz.prog 218 T218 := mkTy_ok (by kernel_rfl)
noncomputable def T219 : TyI := ⟨Tryz.t219.desc, 1, false, 8, (some .nilFunc), [], none, 0, true⟩
theorem ty219 : TyOk Tryz.prog 219 T219 := mkTy_ok (by kernel_rfl)
noncomputable def T220 : TyI := ⟨Tryz.t220.desc, 5, true, 40, (some (.agg [(.int .i64 (.lit (0))), (.int .i64 (.lit (0))), (.int .i64 (.lit (0))), (.int .i64 (.lit (0))), (.bool (.lit (0)))])), [⟨2, 0, 1, false, false⟩, ⟨2, 1, 1, false, false⟩, ⟨2, 2, 1, false, false⟩, ⟨2, 3, 1, false, false⟩, ⟨4, 4, 1, false, false⟩], none, 0, true⟩
theorem ty220 : TyOk Tryz.prog 220 T220 := mkTy_ok (by kernel_rfl)
noncomputable def T221 : TyI := ⟨Tryz.t220.desc, 5, true, 40, (some (.agg [(.int .i64 (.lit (0))), (.int .i64 (.lit (0))), (.int .i64 (.lit (0))), (.int .i64 (.lit (0))), (.bool (.lit (0)))])), [⟨2, 0, 1, false, false⟩, ⟨2, 1, 1, false, false⟩, ⟨2, 2, 1, false, false⟩, ⟨2, 3, 1, false, false⟩, ⟨4, 4, 1, false, false⟩], none, 0, true⟩
theorem ty221 : TyOk Tryz.prog 221 T221 := mkTy_ok (by kernel_rfl)
noncomputable def T222 : TyI := ⟨Tryz.t222.desc, 3, true, 24, (some (.agg [(.int .i64 (.lit (0))), (.int .i64 (.lit (0))), (.int .i64 (.lit (0)))])), [⟨2, 0, 1, false, false⟩, ⟨2, 1, 1, false, false⟩, ⟨2, 2, 1, false, false⟩], none, 0, true⟩
theorem ty222 : TyOk Tryz.prog 222 T222 := mkTy_ok (by kernel_rfl)
noncomputable def T223 : TyI := ⟨Tryz.t222.desc, 3, true, 24, (some (.agg [(.int .i64 (.lit (0))), (.int .i64 (.lit (0))), (.int .i64 (.lit (0)))])), [⟨2, 0, 1, false, false⟩, ⟨2, 1, 1, false, false⟩, ⟨2, 2, 1, false, false⟩], none, 0, true⟩
theorem ty223 : TyOk Tryz.prog 223 T223 := mkTy_ok (by kernel_rfl)
noncomputable def T224 : TyI := ⟨Tryz.t224.desc, 1, false, 8, (some .nilFunc), [], none, 0, true⟩
theorem ty224 : TyOk Tryz.prog 224 T224 := mkTy_ok (by kernel_rfl)
noncomputable def T225 : TyI := ⟨Tryz.t225.desc, 1, false, 24, (some .nilSlice), [], (some ⟨167, 0, 2, true, false⟩), 0, true⟩
theorem ty225 : TyOk Tryz.prog 225 T225 := mkTy_ok (by kernel_rfl)
noncomputable def T226 : TyI := ⟨Tryz.t226.desc, 1, false, 24, (some .nilSlice), [], (some ⟨169, 0, 3, true, false⟩), 0, true⟩
theorem ty226 : TyOk Tryz.prog 226 T226 := mkTy_ok (by kernel_rfl)
noncomputable def T227 : TyI := ⟨Tryz.t227.desc, 1, false, 8, (some .nilFunc), [], none, 0, true⟩
theorem ty227 : TyOk Tryz.prog 227 T227 := mkTy_ok (by kernel_rfl)
noncomputable def T228 : TyI := ⟨Tryz.t228.desc, 1, false, 8, (some .nilFunc), [], none, 0, true⟩
theorem ty228 : TyOk Tryz.prog 228 T228 := mkTy_ok (by kernel_rfl)
noncomputable def T229 : TyI := ⟨Tryz.t229.desc, 1, false, 0, (some (.tuple [(.agg [.nilSlice, .nilSlice, (.int .i64 (.lit (0))), (.int .i64 (.lit (0))), (.int .i64 (.lit (0)))]), (.int .i64 (.lit (0)))])), [], none, 0, true⟩
theorem ty229 : TyOk Tryz.prog 229 T229 := mkTy_ok (by kernel_rfl)
noncomputable def T230 : TyI := ⟨Tryz.t230.desc, 1, false, 8, (some .nilFunc), [], none, 0, true⟩
theorem ty230 : TyOk Tryz.prog 230 T230 := mkTy_ok (by kernel_rfl)
noncomputable def T231 : TyI := ⟨Tryz.t231.desc, 1, false, 8, (some .nilFunc), [], none, 0, true⟩
theorem ty231 : TyOk Tryz.prog 231 T231 := mkTy_ok (by kernel_rfl)
noncomputable def T232 : TyI := ⟨Tryz.t232.desc, 1, false, 8, (some .nilFunc), [], none, 0, true⟩
theorem ty232 : TyOk Tryz.prog 232 T232 := mkTy_ok (by kernel_rfl)
noncomputable def T233 : TyI := ⟨Tryz.t233.desc, 1, false, 8, (some .nilFunc), [], none, 0, true⟩
theorem ty233 : TyOk Tryz.prog 233 T233 := mkTy_ok (by kernel_rfl)
noncomputable def T234 : TyI := ⟨Tryz.t234.desc, 1, false, 24, (some .nilSlice), [], (some ⟨152, 0, 1, false, false⟩), 0, true⟩
theorem ty234 : TyOk Tryz.prog 234 T234 := mkTy_ok (by kernel_rfl)
noncomputable def T235 : TyI := ⟨Tryz.t235.desc, 1, false, 8, (some .nilFunc), [], none, 0, true⟩
theorem ty235 : TyOk Tryz.prog 235 T235 := mkTy_ok (by kernel_rfl)
noncomputable def T236 : TyI := ⟨Tryz.t236.desc, 1, false, 8, (some .nilFunc), [], none, 0, true⟩
theorem ty236 : TyOk Tryz.prog 236 T236 := mkTy_ok (by kernel_rfl)
noncomputable def T237 : TyI := ⟨Tryz.t237.desc, 1, false, 8, (some .nilFunc), [], none, 0, true⟩
theorem ty237 : TyOk Tryz.prog 237 T237 := mkTy_ok (by kernel_rfl)
noncomputable def T238 : TyI := ⟨Tryz.t238.desc, 1, false, 8, (some .nilFunc), [], none, 0, true⟩
theorem ty238 : TyOk Tryz.prog 238 T238 := mkTy_ok (by kernel_rfl)
noncomputable def T239 : TyI := ⟨Tryz.t239.desc, 1, false, 8, (some .nilFunc), [], none, 0, true⟩
theorem ty239 : TyOk Tryz.prog 239 T239 := mkTy_ok (by kernel_rfl)
noncomputable def T240 : TyI := ⟨Tryz.t240.desc, 1, false, 8, (some .nilFunc), [], none, 0, true⟩
theorem ty240 : TyOk Tryz.prog 240 T240 := mkTy_ok (by kernel_rfl)
noncomputable def T241 : TyI := ⟨Tryz.t241.desc, 1, false, 8, (some .nilFunc), [], none, 0, true⟩
theorem ty241 : TyOk Tryz.prog 241 T241 := mkTy_ok (by kernel_rfl)
noncomputable def T242 : TyI := ⟨Tryz.t242.desc, 1, false, 8, (some .nilFunc), [], none, 0, true⟩
theorem ty242 : TyOk Tryz.prog 242 T242 := mkTy_ok (by kernel_rfl)
noncomputable def T243 : TyI := ⟨Tryz.t243.desc, 1, false, 8, (some .nilFunc), [], none, 0, true⟩
theorem ty243 : TyOk Tryz.prog 243 T243 := mkTy_ok (by kernel_rfl)
noncomputable def T244 : TyI := ⟨Tryz.t244.desc, 8, true, 64, (some (.agg [(.int .i64 (.lit (0))), (.int .i64 (.lit (0))), (.int .i64 (.lit (0))), (.int .i64 (.lit (0))), (.int .i64 (.lit (0))), (.int .i64 (.lit (0))), (.int .i64 (.lit (0))), (.int .i64 (.lit (0)))])), [⟨179, 0, 2, true, false⟩, ⟨175, 2, 6, true, false⟩], none, 0, true⟩
theorem ty244 : TyOk Tryz.prog 244 T244 := mkTy_ok (by kernel_rfl)
noncomputable def T245 : TyI := ⟨Tryz.t244.desc, 8, true, 64, (some (.agg [(.int .i64 (.lit (0))), (.int .i64 (.lit (0))), (.int .i64 (.lit (0))), (.int .i64 (.lit (0))), (.int .i64 (.lit (0))), (.int .i64 (.lit (0))), (.int .i64 (.lit (0))), (.int .i64 (.lit (0)))])), [⟨179, 0, 2, true, false⟩, ⟨175, 2, 6, true, false⟩], none, 0, true⟩
theorem ty245 : TyOk Tryz.prog 245 T245 := mkTy_ok (by kernel_rfl)
noncomputable def T246 : TyI := ⟨Tryz.t246.desc, 1, false, 8, (some .nilFunc), [], none, 0, true⟩
theorem ty246 : TyOk Tryz.prog 246 T246 := mkTy_ok (by kernel_rfl)
noncomputable def T247 : TyI := ⟨Tryz.t247.desc, 1, false, 8, (some .nilFunc), [], none, 0, true⟩
theorem ty247 : TyOk Tryz.prog 247 T247 := mkTy_ok (by kernel_rfl)
noncomputable def T248 : TyI := ⟨Tryz.t248.desc, 1, false, 8, (some .nilFunc), [], none, 0, true⟩
theorem ty248 : TyOk Tryz.prog 248 T248 := mkTy_ok (by kernel_rfl)
noncomputable def T249 : TyI := ⟨Tryz.t249.desc, 1, false, 8, (some (.int .u64 (.lit (0)))), [], none, 0, true⟩
theorem ty249 : TyOk Tryz.prog 249 T249 := mkTy_ok (by kernel_rfl)
noncomputable def T250 : TyI := ⟨Tryz.t250.desc, 1, false, 8, (some .nilFunc), [], none, 0, true⟩
theorem ty250 : TyOk Tryz.prog 250 T250 := mkTy_ok (by kernel_rfl)
noncomputable def T251 : TyI := ⟨Tryz.t251.desc, 1, false, 8, (some .nilFunc), [], none, 0, true⟩
theorem ty251 : TyOk Tryz.prog 251 T251 := mkTy_ok (by kernel_rfl)
noncomputable def T252 : TyI := ⟨Tryz.t252.desc, 1, false, 8, (some .nilFunc), [], none, 0, true⟩
theorem ty252 : TyOk Tryz.prog 252 T252 := mkTy_ok (by kernel_rfl)
noncomputable def T253 : TyI := ⟨Tryz.t253.desc, 1, false, 8, (some .nilFunc), [], none, 0, true⟩
theorem ty253 : TyOk Tryz.prog 253 T253 := mkTy_ok (by kernel_rfl)
noncomputable def T254 : TyI := ⟨Tryz.t254.desc, 1, false, 8, (some .nilFunc), [], none, 0, true⟩
theorem ty254 : TyOk Tryz.prog 254 T254 := mkTy_ok (by kernel_rfl)
noncomputable def T255 : TyI := ⟨Tryz.t255.desc, 1, false, 8, (some .nilFunc), [], none, 0, true⟩
theorem ty255 : TyOk Tryz.prog 255 T255 := mkTy_ok (by kernel_rfl)
noncomputable def T256 : TyI := ⟨Tryz.t256.desc, 1, false, 8, (some .nilFunc), [], none, 0, true⟩
theorem ty256 : TyOk Tryz.prog 256 T256 := mkTy_ok (by kernel_rfl)
noncomputable def T257 : TyI := ⟨Tryz.t257.desc, 1, false, 8, (some .nilFunc), [], none, 0, true⟩
theorem ty257 : TyOk Tryz.prog 257 T257 := mkTy_ok (by kernel_rfl)
noncomputable def T258 : TyI := ⟨Tryz.t258.desc, 1, false, 8, (some .nilFunc), [], none, 0, true⟩
theorem ty258 : TyOk Tryz.prog 258 T258 := mkTy_ok (by kernel_rfl)
noncomputable def T259 : TyI := ⟨Tryz.t259.desc, 1, false, 8, (some .nilFunc), [], none, 0, true⟩
theorem ty259 : TyOk Tryz.prog 259 T259 := mkTy_ok (by kernel_rfl)
noncomputable def T260 : TyI := ⟨Tryz.t260.desc, 1, false, 8, (some .nilFunc), [], none, 0, true⟩
theorem ty260 : TyOk Tryz.prog 260 T260 := mkTy_ok (by kernel_rfl)
noncomputable def T261 : TyI := ⟨Tryz.t261.desc, 1, false, 8, (some .nilPtr), [], none, 0, true⟩
theorem ty261 : TyOk Tryz.prog 261 T261 := mkTy_ok (by kernel_rfl)
noncomputable def T262 : TyI := ⟨Tryz.t262.desc, 1, false, 8, (some .nilFunc), [], none, 0, true⟩
theorem ty262 : TyOk Tryz.prog 262 T262 := mkTy_ok (by kernel_rfl)
noncomputable def T263 : TyI := ⟨Tryz.t263.desc, 1, false, 8, (some .nilFunc), [], none, 0, true⟩
theorem ty263 : TyOk Tryz.prog 263 T263 := mkTy_ok (by kernel_rfl)
noncomputable def T264 : TyI := ⟨Tryz.t264.desc, 1, false, 8, (some .nilPtr), [], none, 0, true⟩
theorem ty264 : TyOk Tryz.prog 264 T264 := mkTy_ok (by kernel_rfl)
noncomputable def T265 : TyI := ⟨Tryz.t265.desc, 1, false, 8, (some .nilPtr), [], none, 0, true⟩
theorem ty265 : TyOk Tryz.prog 265 T265 := mkTy_ok (by kernel_rfl)
noncomputable def T266 : TyI := ⟨Tryz.t266.desc, 1, false, 8, (some .nilFunc), [], none, 0, true⟩
theorem ty266 : TyOk Tryz.prog 266 T266 := mkTy_ok (by kernel_rfl)
noncomputable def T267 : TyI := ⟨Tryz.t267.desc, 1, false, 8, (some .nilFunc), [], none, 0, true⟩
theorem ty267 : TyOk Tryz.prog 267 T267 := mkTy_ok (by kernel_rfl)
noncomputable def T268 : TyI := ⟨Tryz.t268.desc, 1, false, 8, (some .nilFunc), [], none, 0, true⟩
theorem ty268 : TyOk Tryz.prog 268 T268 := mkTy_ok (by kernel_rfl)
noncomputable def T269 : TyI := ⟨Tryz.t269.desc, 1, false, 8, (some .nilFunc), [], none, 0, true⟩
theorem ty269 : TyOk Tryz.prog 269 T269 := mkTy_ok (by kernel_rfl)
noncomputable def T270 : TyI := ⟨Tryz.t270.desc, 1, false, 8, (some .nilFunc), [], none, 0, true⟩
theorem ty270 : TyOk Tryz.prog 270 T270 := mkTy_ok (by kernel_rfl)
noncomputable def T271 : TyI := ⟨Tryz.t271.desc, 1, false, 8, (some .nilFunc), [], none, 0, true⟩
theorem ty271 : TyOk Tryz.prog 271 T271 := mkTy_ok (by kernel_rfl)
noncomputable def T272 : TyI := ⟨Tryz.t272.desc, 1, false, 8, (some .nilFunc), [], none, 0, true⟩
theorem ty272 : TyOk Tryz.prog 272 T272 := mkTy_ok (by kernel_rfl)
noncomputable def T273 : TyI := ⟨Tryz.t273.desc, 1, false, 8, (some .nilFunc), [], none, 0, true⟩
theorem ty273 : TyOk Tryz.prog 273 T273 := mkTy_ok (by kernel_rfl)
noncomputable def T274 : TyI := ⟨Tryz.t274.desc, 6, true, 48, (some (.agg [(.int .i64 (.lit (0))), (.int .i64 (.lit (0))), (.int .i64 (.lit (0))), (.int .i64 (.lit (0))), (.int .i64 (.lit (0))), (.int .i64 (.lit (0)))])), [], (some ⟨169, 0, 3, true, false⟩), 2, true⟩
theorem ty274 : TyOk Tryz.prog 274 T274 := mkTy_ok (by kernel_rfl)
noncomputable def T275 : TyI := ⟨Tryz.t275.desc, 1, false, 8, (some .nilFunc), [], none, 0, true⟩
theorem ty275 : TyOk Tryz.prog 275 T275 := mkTy_ok (by kernel_rfl)
noncomputable def T276 : TyI := ⟨Tryz.t276.desc, 1, false, 8, (some .nilFunc), [], none, 0, true⟩
theorem ty276 : TyOk Tryz.prog 276 T276 := mkTy_ok (by kernel_rfl)
noncomputable def T277 : TyI := ⟨Tryz.t277.desc, 1, false, 8, (some .nilFunc), [], none, 0, true⟩
theorem ty277 : TyOk Tryz.prog 277 T277 := mkTy_ok (by kernel_rfl)
noncomputable def T278 : TyI := ⟨Tryz.t278.desc, 1, false, 8, (some .nilFunc), [], none, 0, true⟩
theorem ty278 : TyOk Tryz.prog 278 T278 := mkTy_ok (by kernel_rfl)
noncomputable def T279 : TyI := ⟨Tryz.t279.desc, 1, false, 8, (some .nilFunc), [], none, 0, true⟩
theorem ty279 : TyOk Tryz.prog 279 T279 := mkTy_ok (by kernel_rfl)
noncomputable def T280 : TyI := ⟨Tryz.t280.desc, 1, false, 8, (some .nilFunc), [], none, 0, true⟩
theorem ty280 : TyOk Tryz.prog 280 T280 := mkTy_ok (by kernel_rfl)
noncomputable def T281 : TyI := ⟨Tryz.t281.desc, 1, false, 8, (some .nilFunc), [], none, 0, true⟩
theorem ty281 : TyOk Tryz.prog 281 T281 := mkTy_ok (by kernel_rfl)
noncomputable def T282 : TyI := ⟨Tryz.t282.desc, 1, false, 8, (some .nilFunc), [], none, 0, true⟩
theorem ty282 : TyOk Tryz.prog 282 T282 := mkTy_ok (by kernel_rfl)
noncomputable def T283 : TyI := ⟨Tryz.t283.desc, 2, true, 16, (some (.agg [(.int .i64 (.lit (0))), (.int .i64 (.lit (0)))])), [⟨2, 0, 1, false, false⟩, ⟨2, 1, 1, false, false⟩], none, 0, true⟩
theorem ty283 : TyOk Tryz.prog 283 T283 := mkTy_ok (by kernel_rfl)
noncomputable def T284 : TyI := ⟨Tryz.t283.desc, 2, true, 16, (some (.agg [(.int .i64 (.lit (0))), (.int .i64 (.lit (0)))])), [⟨2, 0, 1, false, false⟩, ⟨2, 1, 1, false, false⟩], none, 0, true⟩
theorem ty284 : TyOk Tryz.prog 284 T284 := mkTy_ok (by kernel_rfl)
noncomputable def T285 : TyI := ⟨Tryz.t285.desc, 1, false, 8, (some .nilFunc), [], none, 0, true⟩
theorem ty285 : TyOk Tryz.prog 285 T285 := mkTy_ok (by kernel_rfl)
noncomputable def T286 : TyI := ⟨Tryz.t286.desc, 1, false, 8, (some .nilFunc), [], none, 0, true⟩
theorem ty286 : TyOk Tryz.prog 286 T286 := mkTy_ok (by kernel_rfl)
noncomputable def T287 : TyI := ⟨Tryz.t287.desc, 1, false, 8, (some .nilFunc), [], none, 0, true⟩
theorem ty287 : TyOk Tryz.prog 287 T287 := mkTy_ok (by kernel_rfl)
noncomputable def T288 : TyI := ⟨Tryz.t288.desc, 1, false, 24, (some .nilSlice), [], (some ⟨226, 0, 1, false, false⟩), 0, true⟩
theorem ty288 : TyOk Tryz.prog 288 T288 := mkTy_ok (by kernel_rfl)
noncomputable def T289 : TyI := ⟨Tryz.t289.desc, 1, false, 8, (some .nilFunc), [], none, 0, true⟩
theorem ty289 : TyOk Tryz.prog 289 T289 := mkTy_ok (by kernel_rfl)
noncomputable def T290 : TyI := ⟨Tryz.t290.desc, 1, false, 8, (some .nilFunc), [], none, 0, true⟩
theorem ty290 : TyOk Tryz.prog 290 T290 := mkTy_ok (by kernel_rfl)
noncomputable def T291 : TyI := ⟨Tryz.t291.desc, 1, false, 8, (some .nilFunc), [], none, 0, true⟩
theorem ty291 : TyOk Tryz.prog 291 T291 := mkTy_ok (by kernel_rfl)
noncomputable def T292 : TyI := ⟨Tryz.t292.desc, 1, false, 8, (some (.int .u64 (.lit (0)))), [], none, 0, true⟩
theorem ty292 : TyOk Tryz.prog 292 T292 := mkTy_ok (by kernel_rfl)
noncomputable def T293 : TyI := ⟨Tryz.t293.desc, 2, true, 16, (some (.agg [(.int .u64 (.lit (0))), (.int .u64 (.lit (0)))])), [], (some ⟨292, 0, 1, false, false⟩), 2, true⟩
theorem ty293 : TyOk Tryz.prog 293 T293 := mkTy_ok (by kernel_rfl)
noncomputable def T294 : TyI := ⟨Tryz.t293.desc, 2, true, 16, (some (.agg [(.int .u64 (.lit (0))), (.int .u64 (.lit (0)))])), [], (some ⟨292, 0, 1, false, false⟩), 2, true⟩
theorem ty294 : TyOk Tryz.prog 294 T294 := mkTy_ok (by kernel_rfl)
noncomputable def T295 : TyI := ⟨Tryz.t295.desc, 1, false, 8, (some .nilFunc), [], none, 0, true⟩
theorem ty295 : TyOk Tryz.prog 295 T295 := mkTy_ok (by kernel_rfl)
noncomputable def T296 : TyI := ⟨Tryz.t296.desc, 1, false, 8, (some .nilFunc), [], none, 0, true⟩
theorem ty296 : TyOk Tryz.prog 296 T296 := mkTy_ok (by kernel_rfl)
noncomputable def T297 : TyI := ⟨Tryz.t297.desc, 1, false, 0, (some (.tuple [(.int .u64 (.lit (0))), (.int .u64 (.lit (0)))])), [], none, 0, true⟩
theorem ty297 : TyOk Tryz.prog 297 T297 := mkTy_ok (by kernel_rfl)
noncomputable def T298 : TyI := ⟨Tryz.t298.desc, 1, false, 8, (some .nilFunc), [], none, 0, true⟩
theorem ty298 : TyOk Tryz.prog 298 T298 := mkTy_ok (by kernel_rfl)
noncomputable def T299 : TyI := ⟨Tryz.t299.desc, 1, false, 8, (some .nilFunc), [], none, 0, true⟩
theorem ty299 : TyOk Tryz.prog 299 T299 := mkTy_ok (by kernel_rfl)
noncomputable def T300 : TyI := ⟨Tryz.t300.desc, 1, false, 8, (some .nilFunc), [], none, 0, true⟩
theorem ty300 : TyOk Tryz.prog 300 T300 := mkTy_ok (by kernel_rfl)
noncomputable def T301 : TyI := ⟨Tryz.t301.desc, 1, false, 8, (some .nilFunc), [], none, 0, true⟩
theorem ty301 : TyOk Tryz.prog 301 T301 := mkTy_ok (by kernel_rfl)
noncomputable def T302 : TyI := ⟨Tryz.t302.desc, 4, true, 40, (some (.agg [.nilPtr, .nilPtr, .nilPtr, (.str [])])), [⟨17, 0, 1, false, false⟩, ⟨17, 1, 1, false, false⟩, ⟨17, 2, 1, false, false⟩, ⟨9, 3, 1, false, false⟩], none, 0, false⟩
theorem ty302 : TyOk Tryz.prog 302 T302 := mkTy_ok (by kernel_rfl)
noncomputable def T303 : TyI := ⟨Tryz.t302.desc, 4, true, 40, (some (.agg [.nilPtr, .nilPtr, .nilPtr, (.str [])])), [⟨17, 0, 1, false, false⟩, ⟨17, 1, 1, false, false⟩, ⟨17, 2, 1, false, false⟩, ⟨9, 3, 1, false, false⟩], none, 0, false⟩
theorem ty303 : TyOk Tryz.prog 303 T303 := mkTy_ok (by kernel_rfl)
noncomputable def T304 : TyI := ⟨Tryz.t304.desc, 0, true, 0, (some (.agg [])), [], (some ⟨16, 0, 1, false, false⟩), 0, true⟩
theorem ty304 : TyOk Tryz.prog 304 T304 := mkTy_ok (by kernel_rfl)
noncomputable def T305 : TyI := ⟨Tryz.t305.desc, 0, true, 0, (some (.agg [])), [⟨304, 0, 0, true, true⟩], none, 0, false⟩
theorem ty305 : TyOk Tryz.prog 305 T305 := mkTy_ok (by kernel_rfl)
noncomputable def T306 : TyI := ⟨Tryz.t305.desc, 0, true, 0, (some (.agg [])), [⟨304, 0, 0, true, true⟩], none, 0, false⟩
theorem ty306 : TyOk Tryz.prog 306 T306 := mkTy_ok (by kernel_rfl)
noncomputable def T307 : TyI := ⟨Tryz.t307.desc, 1, false, 4, (some (.int .u32 (.lit (0)))), [], none, 0, true⟩
theorem ty307 : TyOk Tryz.prog 307 T307 := mkTy_ok (by kernel_rfl)
noncomputable def T308 : TyI := ⟨Tryz.t5.desc, 1, false, 1, (some (.int .u8 (.lit (0)))), [], none, 0, true⟩
theorem ty308 : TyOk Tryz.prog 308 T308 := mkTy_ok (by kernel_rfl)
noncomputable def T309 : TyI := ⟨Tryz.t5.desc, 1, false, 1, (some (.int .u8 (.lit (0)))), [], none, 0, true⟩
theorem ty309 : TyOk Tryz.prog 309 T309 := mkTy_ok (by kernel_rfl)
noncomputable def T310 : TyI := ⟨Tryz.t310.desc, 1, false, 8, (some .nilFunc), [], none, 0, true⟩
theorem ty310 : TyOk Tryz.prog 310 T310 := mkTy_ok (by kernel_rfl)
noncomputable def T311 : TyI := ⟨Tryz.t311.desc, 1, false, 8, (some .nilPtr), [], none, 0, true⟩
theorem ty311 : TyOk Tryz.prog 311 T311 := mkTy_ok (by kernel_rfl)
noncomputable def T312 : TyI := ⟨Tryz.t21.desc, 1, false, 4, (some (.int .i32 (.lit (0)))), [], none, 0, true⟩
theorem ty312 : TyOk Tryz.prog 312 T312 := mkTy_ok (by kernel_rfl)
noncomputable def T313 : TyI := ⟨Tryz.t21.desc, 1, false, 4, (some (.int .i32 (.lit (0)))), [], none, 0, true⟩
theorem ty313 : TyOk Tryz.prog 313 T313 := mkTy_ok (by kernel_rfl)
noncomputable def T314 : TyI := ⟨Tryz.t314.desc, 11, true, 48, (some (.agg [(.int .u64 (.lit (0))), (.int .u64 (.lit (0))), (.int .u32 (.lit (0))), (.int .u8 (.lit (0))), (.int .u8 (.lit (0))), (.int .u8 (.lit (0))), (.int .u8 (.lit (0))), .nilFunc, .nilPtr, (.int .i32 (.lit (0))), (.int .i32 (.lit (0)))])), [⟨12, 0, 1, false, false⟩, ⟨12, 1, 1, false, false⟩, ⟨307, 2, 1, false, false⟩, ⟨308, 3, 1, false, false⟩, ⟨5, 4, 1, false, false⟩, ⟨5, 5, 1, false, false⟩, ⟨309, 6, 1, false, false⟩, ⟨310, 7, 1, false, false⟩, ⟨311, 8, 1, false, false⟩, ⟨312, 9, 1, false, false⟩, ⟨313, 10, 1, false, false⟩], none, 0, false⟩
theorem ty314 : TyOk Tryz.prog 314 T314 := mkTy_ok (by kernel_rfl)
noncomputable def T315 : TyI := ⟨Tryz.t314.desc, 11, true, 48, (some (.agg [(.int .u64 (.lit (0))), (.int .u64 (.lit (0))), (.int .u32 (.lit (0))), (.int .u8 (.lit (0))), (.int .u8 (.lit (0))), (.int .u8 (.lit (0))), (.int .u8 (.lit (0))), .nilFunc, .nilPtr, (.int .i32 (.lit (0))), (.int .i32 (.lit (0)))])), [⟨12, 0, 1, false, false⟩, ⟨12, 1, 1, false, false⟩, ⟨307, 2, 1, false, false⟩, ⟨308, 3, 1, false, false⟩, ⟨5, 4, 1, false, false⟩, ⟨5, 5, 1, false, false⟩, ⟨309, 6, 1, false, false⟩, ⟨310, 7, 1, false, false⟩, ⟨311, 8, 1, false, false⟩, ⟨312, 9, 1, false, false⟩, ⟨313, 10, 1, false, false⟩], none, 0, false⟩
theorem ty315 : TyOk Tryz.prog 315 T315 := mkTy_ok (by kernel_rfl)
noncomputable def T316 : TyI := ⟨Tryz.t316.desc, 1, false, 8, (some .nilPtr), [], none, 0, true⟩
theorem ty316 : TyOk Tryz.prog 316 T316 := mkTy_ok (by kernel_rfl)
noncomputable def F2 : FnI := ⟨bodyOf Tryz.f2, 1, [], .e⟩
theorem fn2 : FnOk Tryz.prog 2 F2 := FnOk.of Tryz.func2 rfl (by kernel_rfl) rfl rfl
theorem pl2 : codeOk planOk F2.plans F2.code = true := by kernel_rfl
noncomputable def F3 : FnI := ⟨bodyOf Tryz.f3, 234, [.tmp 12], (.n none (.n none (.n none (.n none (.n (some [.n 0, .n 1, .n 2, .n 3, .n 4, .n 5, .n 6, .n 7, .n 8, .n 9, .n 10, .n 11, .n 12, .n 13, .n 14, .n 15, .n 16, .n 17, .n 18, .n 19, .n 20, .n 21, .n 22, .n 23, .n 24, .n 25, .n 26, .n 27, .n 28, .n 29, .n 30, .n 31, .n 32, .n 33, .n 34, .n 35, .n 36, .n 37, .n 38, .n 39, .n 40, .n 41, .n 42, .fin]) .e .e) .e) (.n none (.n (some [.n 0, .n 1, .n 2, .go 3, .x 3, .r 0, .go 4, .x 4, .n 5, .n 6, .n 7, .go 8, .x 8, .r 7, .go 9, .x 9, .fin]) .e .e) .e)) (.n (some [.n 0, .n 1, .g 8, .go 2, .x 2, .r 0, .n 3, .g 8, .go 4, .x 4, .n 5, .n 6, .n 7, .g 8, .go 9, .b 8, .x 9, .r 7, .go 10, .x 10, .fin]) (.n none (.n none .e .e) .e) (.n (some [.n 0, .n 1, .n 2, .n 3, .n 4, .n 5, .n 6, .n 7, .n 8, .n 9, .go 10, .x 10, .n 11, .n 12, .n 13, .go 14, .x 14, .r 13, .go 15, .x 15, .fin]) (.n (some [.n 0, .n 1, .n 2, .n 3, .n 4, .n 5, .n 6, .n 7, .n 8, .n 9, .n 10, .n 11, .n 12, .n 13, .n 14, .n 15, .n 16, .n 17, .n 18, .n 19, .n 20, .n 21, .n 22, .n 23, .n 24, .n 25, .n 26, .n 27, .n 28, .n 29, .n 30, .n 31, .n 32, .n 33, .n 34, .n 35, .n 36, .n 37, .n 38, .n 39, .n 40, .n 41, .n 42, .n 43, .n 44, .n 45, .n 46, .n 47, .n 48, .go 49, .x 49, .n 50, .go 51, .x 51, .fin]) .e .e) .e))) (.n none (.n none (.n none (.n none .e .e) .e) (.n none (.n (some [.n 0, .n 1, .n 2, .go 3, .x 3, .r 0, .go 4, .x 4, .n 5, .n 6, .n 7, .go 8, .x 8, .r 7, .go 9, .x 9, .fin]) .e .e) .e)) (.n none (.n (some [.n 0, .n 1, .n 2, .n 3, .n 4, .n 5, .n 6, .n 7, .n 8, .n 9, .n 10, .n 11, .n 12, .n 13, .n 14, .n 15, .n 16, .n 17, .n 18, .n 19, .n 20, .go 21, .x 21, .r 0, .r 1, .r 2, .r 3, .r 4, .r 5, .r 6, .r 7, .r 8, .r 9, .r 10, .r 11, .r 12, .r 13, .r 14, .r 15, .r 16, .r 17, .r 18, .r 19, .r 20, .go 22, .x 22, .fin]) (.n none .e .e) .e) (.n (some [.n 0, .n 1, .go 2, .x 2, .r 0, .go 3, .x 3, .n 4, .n 5, .n 6, .go 7, .x 7, .r 6, .go 8, .x 8, .fin]) .e .e))))⟩
theorem fn3 : FnOk Tryz.prog 3 F3 := FnOk.of Tryz.func3 rfl (by kernel_rfl) rfl rfl
theorem pl3 : codeOk planOk F3.plans F3.code = true := by kernel_rfl
noncomputable def F4 : FnI := ⟨bodyOf Tryz.f4, 115, [.cell 6 30, .tmp 7], (.n none (.n none (.n none (.n none (.n (some [.n 0, .n 1, .n 2, .n 3, .n 4, .n 5, .n 6, .n 7, .n 8, .n 9, .n 10, .n 11, .n 12, .n 13, .n 14, .n 15, .n 16, .n 17, .n 18, .n 19, .n 21, .go 20, .x 20, .r 2, .r 3, .r 11, .r 12, .r 13, .r 14, .r 15, .r 16, .r 17, .r 21, .n 22, .go 23, .x 23, .fin]) .e .e) .e) (.n none .e .e)) (.n none (.n none .e .e) (.n none .e .e))) (.n none (.n none (.n none .e .e) (.n none .e .e)) (.n none (.n none .e .e) (.n (some [.n 0, .n 1, .n 2, .n 3, .n 4, .n 5, .n 6, .n 7, .n 8, .n 10, .go 9, .x 9, .r 1, .r 2, .r 5, .r 6, .r 10, .n 11, .go 12, .x 12, .fin]) .e .e))))⟩
theorem fn4 : FnOk Tryz.prog 4 F4 := FnOk.of Tryz.func4 rfl (by kernel_rfl) rfl rfl
theorem pl4 : codeOk planOk F4.plans F4.code = true := by kernel_rfl
noncomputable def F5 : FnI := ⟨bodyOf Tryz.f5, 29, [.cell 4 30, .tmp 5], .e⟩
theorem fn5 : FnOk Tryz.prog 5 F5 := FnOk.of Tryz.func5 rfl (by kernel_rfl) rfl rfl
theorem pl5 : codeOk planOk F5.plans F5.code = true := by kernel_rfl
noncomputable def F6 : FnI := ⟨bodyOf Tryz.f6, 12, [.tmp 2], .e⟩
theorem fn6 : FnOk Tryz.prog 6 F6 := FnOk.of Tryz.func6 rfl (by kernel_rfl) rfl rfl
theorem pl6 : codeOk planOk F6.plans F6.code = true := by kernel_rfl
noncomputable def F7 : FnI := ⟨bodyOf Tryz.f7, 43, [.cell 2 27, .tmp 3], (.n none (.n none (.n none (.n none .e .e) .e) (.n none .e .e)) (.n none (.n none (.n (some [.n 0, .n 1, .n 2, .n 3, .n 4, .n 5, .n 6, .n 7, .n 8, .n 9, .n 10, .n 11, .n 12, .n 13, .go 14, .x 14, .fin]) .e .e) .e) (.n none .e .e)))⟩
theorem fn7 : FnOk Tryz.prog 7 F7 := FnOk.of Tryz.func7 rfl (by kernel_rfl) rfl rfl
theorem pl7 : codeOk planOk F7.plans F7.code = true := by kernel_rfl
noncomputable def F8 : FnI := ⟨bodyOf Tryz.f8, 26, [.cell 4 44], .e⟩
theorem fn8 : FnOk Tryz.prog 8 F8 := FnOk.of Tryz.func8 rfl (by kernel_rfl) rfl rfl
theorem pl8 : codeOk planOk F8.plans F8.code = true := by kernel_rfl
noncomputable def F9 : FnI := ⟨bodyOf Tryz.f9, 62, [.tmp 2], .e⟩
theorem fn9 : FnOk Tryz.prog 9 F9 := FnOk.of Tryz.func9 rfl (by kernel_rfl) rfl rfl
theorem pl9 : codeOk planOk F9.plans F9.code = true := by kernel_rfl
noncomputable def F10 : FnI := ⟨bodyOf Tryz.f10, 20, [.tmp 6, .tmp 7], .e⟩
theorem fn10 : FnOk Tryz.prog 10 F10 := FnOk.of Tryz.func10 rfl (by kernel_rfl) rfl rfl
theorem pl10 : codeOk planOk F10.plans F10.code = true := by kernel_rfl
noncomputable def F11 : FnI := ⟨bodyOf Tryz.f11, 23, [.tmp 4, .tmp 5], .e⟩
theorem fn11 : FnOk Tryz.prog 11 F11 := FnOk.of Tryz.func11 rfl (by kernel_rfl) rfl rfl
theorem pl11 : codeOk planOk F11.plans F11.code = true := by kernel_rfl
noncomputable def F12 : FnI := ⟨bodyOf Tryz.f12, 16, [.tmp 0], .e⟩
theorem fn12 : FnOk Tryz.prog 12 F12 := FnOk.of Tryz.func12 rfl (by kernel_rfl) rfl rfl
theorem pl12 : codeOk planOk F12.plans F12.code = true := by kernel_rfl
noncomputable def F13 : FnI := ⟨bodyOf Tryz.f13, 14, [.cell 2 58, .tmp 3], .e⟩
theorem fn13 : FnOk Tryz.prog 13 F13 := FnOk.of Tryz.func13 rfl (by kernel_rfl) rfl rfl
theorem pl13 : codeOk planOk F13.plans F13.code = true := by kernel_rfl
noncomputable def F14 : FnI := ⟨bodyOf Tryz.f14, 25, [.cell 4 30, .tmp 5], .e⟩
theorem fn14 : FnOk Tryz.prog 14 F14 := FnOk.of Tryz.func14 rfl (by kernel_rfl) rfl rfl
theorem pl14 : codeOk planOk F14.plans F14.code = true := by kernel_rfl
noncomputable def F15 : FnI := ⟨bodyOf Tryz.f15, 30, [.tmp 2, .tmp 3], .e⟩
theorem fn15 : FnOk Tryz.prog 15 F15 := FnOk.of Tryz.func15 rfl (by kernel_rfl) rfl rfl
theorem pl15 : codeOk planOk F15.plans F15.code = true := by kernel_rfl
noncomputable def F16 : FnI := ⟨bodyOf Tryz.f16, 117, [.tmp 4], (.n none (.n none (.n none (.n none (.n none .e .e) (.n (some [.n 0, .n 1, .n 2, .n 3, .n 4, .n 5, .n 6, .n 7, .n 8, .n 9, .n 10, .n 11, .n 12, .n 13, .n 14, .n 15, .go 16, .x 16, .fin]) .e .e)) (.n (some [.n 0, .n 1, .n 2, .n 3, .n 4, .n 5, .n 6, .n 7, .n 8, .n 9, .go 10, .x 10, .fin]) (.n none .e .e) .e)) (.n none (.n none (.n none .e .e) .e) (.n none (.n none .e .e) .e))) (.n none (.n none (.n none (.n none .e .e) .e) (.n none (.n (some [.n 0, .n 1, .n 2, .n 3, .n 4, .n 5, .n 6, .n 7, .n 8, .n 9, .n 10, .n 11, .n 12, .n 13, .n 14, .n 15, .go 16, .x 16, .fin]) .e .e) .e)) (.n none (.n none (.n none .e .e) .e) (.n none (.n none .e .e) .e))))⟩
theorem fn16 : FnOk Tryz.prog 16 F16 := FnOk.of Tryz.func16 rfl (by kernel_rfl) rfl rfl
theorem pl16 : codeOk planOk F16.plans F16.code = true := by kernel_rfl
noncomputable def F17 : FnI := ⟨bodyOf Tryz.f17, 15, [.tmp 6], .e⟩
theorem fn17 : FnOk Tryz.prog 17 F17 := FnOk.of Tryz.func17 rfl (by kernel_rfl) rfl rfl
theorem pl17 : codeOk planOk F17.plans F17.code = true := by kernel_rfl
noncomputable def F18 : FnI := ⟨bodyOf Tryz.f18, 16, [.tmp 2], .e⟩
theorem fn18 : FnOk Tryz.prog 18 F18 := FnOk.of Tryz.func18 rfl (by kernel_rfl) rfl rfl
theorem pl18 : codeOk planOk F18.plans F18.code = true := by kernel_rfl
noncomputable def F19 : FnI := ⟨bodyOf Tryz.f19, 29, [.tmp 6], .e⟩
theorem fn19 : FnOk Tryz.prog 19 F19 := FnOk.of Tryz.func19 rfl (by kernel_rfl) rfl rfl
theorem pl19 : codeOk planOk F19.plans F19.code = true := by kernel_rfl
noncomputable def F20 : FnI := ⟨bodyOf Tryz.f20, 90, [.tmp 4, .tmp 5], (.n none (.n none (.n none (.n none (.n none .e .e) .e) (.n (some [.n 0, .n 1, .n 2, .n 3, .n 4, .n 5, .n 6, .go 7, .x 7, .fin]) (.n (some [.n 0, .n 1, .n 2, .n 3, .n 4, .n 5, .go 6, .x 6, .r 0, .r 1, .r 2, .r 3, .r 4, .go 7, .x 7, .r 0, .n 8, .n 9, .go 10, .x 10, .fin]) .e .e) .e)) (.n none (.n none (.n (some [.n 0, .n 1, .n 2, .n 3, .n 4, .n 5, .n 6, .n 7, .n 8, .n 9, .go 10, .x 10, .r 9, .go 11, .x 11, .fin]) .e .e) .e) (.n none .e .e))) (.n none (.n none (.n none (.n (some [.n 0, .n 1, .n 2, .n 3, .n 4, .n 5, .n 6, .n 7, .n 8, .n 9, .go 10, .x 10, .r 9, .go 11, .x 11, .fin]) .e .e) .e) (.n none .e .e)) (.n none (.n none (.n none .e .e) .e) (.n none .e .e))))⟩
theorem fn20 : FnOk Tryz.prog 20 F20 := FnOk.of Tryz.func20 rfl (by kernel_rfl) rfl rfl
theorem pl20 : codeOk planOk F20.plans F20.code = true := by kernel_rfl
noncomputable def F21 : FnI := ⟨bodyOf Tryz.f21, 46, [], (.n none (.n none (.n (some [.n 0, .n 1, .n 2, .n 3, .n 4, .n 5, .n 6, .n 7, .n 8, .n 9, .n 10, .n 11, .n 12, .n 13, .n 14, .n 15, .n 16, .n 17, .n 18, .n 19, .n 20, .n 21, .n 22, .n 23, .n 24, .n 25, .go 26, .x 26, .fin]) .e .e) .e) (.n none .e .e))⟩
theorem fn21 : FnOk Tryz.prog 21 F21 := FnOk.of Tryz.func21 rfl (by kernel_rfl) rfl rfl
theorem pl21 : codeOk planOk F21.plans F21.code = true := by kernel_rfl
noncomputable def F22 : FnI := ⟨bodyOf Tryz.f22, 2, [], .e⟩
theorem fn22 : FnOk Tryz.prog 22 F22 := FnOk.of Tryz.func22 rfl (by kernel_rfl) rfl rfl
theorem pl22 : codeOk planOk F22.plans F22.code = true := by kernel_rfl
noncomputable def F23 : FnI := ⟨bodyOf Tryz.f23, 17, [.tmp 0], .e⟩
theorem fn23 : FnOk Tryz.prog 23 F23 := FnOk.of Tryz.func23 rfl (by kernel_rfl) rfl rfl
theorem pl23 : codeOk planOk F23.plans F23.code = true := by kernel_rfl
noncomputable def F24 : FnI := ⟨bodyOf Tryz.f24, 7, [.cell 0 81], .e⟩
theorem fn24 : FnOk Tryz.prog 24 F24 := FnOk.of Tryz.func24 rfl (by kernel_rfl) rfl rfl
theorem pl24 : codeOk planOk F24.plans F24.code = true := by kernel_rfl
noncomputable def F25 : FnI := ⟨bodyOf Tryz.f25, 23, [.tmp 4], .e⟩
theorem fn25 : FnOk Tryz.prog 25 F25 := FnOk.of Tryz.func25 rfl (by kernel_rfl) rfl rfl
theorem pl25 : codeOk planOk F25.plans F25.code = true := by kernel_rfl
noncomputable def F26 : FnI := ⟨bodyOf Tryz.f26, 136, [.tmp 2], (.n none (.n (some [.n 0, .n 1, .n 2, .n 3, .n 4, .n 5, .n 6, .n 7, .n 8, .n 9, .n 10, .n 11, .n 12, .n 13, .n 14, .n 15, .n 16, .n 17, .n 18, .n 19, .n 20, .n 21, .n 22, .n 23, .n 24, .n 25, .n 26, .n 27, .n 28, .n 29, .n 30, .n 31, .n 32, .n 33, .n 34, .n 35, .n 36, .n 37, .n 38, .n 39, .n 40, .n 41, .n 42, .n 43, .n 44, .n 45, .n 46, .n 47, .n 48, .go 49, .x 49, .n 50, .n 51, .fin]) .e .e) .e)⟩
theorem fn26 : FnOk Tryz.prog 26 F26 := FnOk.of Tryz.func26 rfl (by kernel_rfl) rfl rfl
theorem pl26 : codeOk planOk F26.plans F26.code = true := by kernel_rfl
noncomputable def F27 : FnI := ⟨bodyOf Tryz.f27, 256, [.tmp 2], (.n none (.n none (.n none (.n none (.n none .e .e) (.n none .e .e)) (.n none (.n none .e .e) (.n none .e .e))) (.n none (.n none (.n none .e .e) (.n (some [.n 0, .n 1, .n 2, .n 3, .n 4, .n 5, .go 6, .x 6, .n 7, .n 8, .n 9, .n 10, .n 11, .n 12, .n 13, .n 14, .n 15, .n 16, .n 17, .n 18, .n 19, .n 20, .n 21, .n 22, .n 23, .n 24, .n 25, .n 26, .n 27, .n 28, .n 29, .n 30, .n 31, .n 32, .n 33, .n 34, .n 35, .n 36, .n 37, .n 38, .n 39, .n 40, .n 41, .n 42, .n 43, .n 44, .n 45, .n 46, .n 47, .n 48, .n 49, .n 50, .n 51, .n 52, .n 53, .n 54, .n 55, .n 56, .n 57, .n 58, .n 59, .n 60, .n 61, .n 62, .n 63, .n 64, .n 65, .n 66, .n 67, .n 68, .n 69, .n 70, .n 71, .n 72, .n 73, .n 74, .n 75, .n 76, .n 77, .n 78, .n 79, .n 80, .n 81, .n 82, .n 83, .n 84, .fin]) .e .e)) (.n none (.n none .e .e) (.n (some [.n 0, .n 1, .n 2, .n 3, .n 4, .n 5, .go 6, .x 6, .n 7, .n 8, .n 9, .n 10, .n 11, .n 12, .n 13, .n 14, .n 15, .n 16, .n 17, .n 18, .n 19, .n 20, .n 21, .n 22, .n 23, .n 24, .n 25, .n 26, .n 27, .n 28, .n 29, .n 30, .n 31, .n 32, .n 33, .go 34, .x 34, .fin]) .e .e)))) (.n none (.n none (.n none (.n none .e .e) (.n none .e .e)) (.n none (.n none .e .e) (.n none .e .e))) (.n none (.n none (.n none .e .e) (.n none .e .e)) (.n none (.n none .e .e) .e))))⟩
theorem fn27 : FnOk Tryz.prog 27 F27 := FnOk.of Tryz.func27 rfl (by kernel_rfl) rfl rfl
theorem pl27 : codeOk planOk F27.plans F27.code = true := by kernel_rfl
noncomputable def F28 : FnI := ⟨bodyOf Tryz.f28, 23, [.tmp 3], .e⟩
theorem fn28 : FnOk Tryz.prog 28 F28 := FnOk.of Tryz.func28 rfl (by kernel_rfl) rfl rfl
theorem pl28 : codeOk planOk F28.plans F28.code = true := by kernel_rfl
noncomputable def F29 : FnI := ⟨bodyOf Tryz.f29, 9, [.tmp 4], .e⟩
theorem fn29 : FnOk Tryz.prog 29 F29 := FnOk.of Tryz.func29 rfl (by kernel_rfl) rfl rfl
theorem pl29 : codeOk planOk F29.plans F29.code = true := by kernel_rfl
noncomputable def F30 : FnI := ⟨bodyOf Tryz.f30, 5, [.tmp 2], .e⟩
theorem fn30 : FnOk Tryz.prog 30 F30 := FnOk.of Tryz.func30 rfl (by kernel_rfl) rfl rfl
theorem pl30 : codeOk planOk F30.plans F30.code = true := by kernel_rfl
noncomputable def F31 : FnI := ⟨bodyOf Tryz.f31, 4, [.tmp 2], .e⟩
theorem fn31 : FnOk Tryz.prog 31 F31 := FnOk.of Tryz.func31 rfl (by kernel_rfl) rfl rfl
theorem pl31 : codeOk planOk F31.plans F31.code = true := by kernel_rfl
noncomputable def F32 : FnI := ⟨bodyOf Tryz.f32, 55, [.tmp 4], (.n none (.n none (.n none (.n (some [.n 0, .n 1, .n 2, .n 3, .n 4, .n 5, .n 6, .n 7, .n 8, .n 9, .n 10, .n 11, .go 12, .x 12, .n 13, .n 14, .n 15, .n 16, .n 17, .n 18, .n 19, .n 20, .n 21, .n 22, .n 23, .n 24, .n 25, .n 26, .n 27, .n 28, .n 29, .go 30, .x 30, .fin]) .e .e) .e) (.n none .e .e)) (.n none (.n none .e .e) (.n none .e .e)))⟩
theorem fn32 : FnOk Tryz.prog 32 F32 := FnOk.of Tryz.func32 rfl (by kernel_rfl) rfl rfl
theorem pl32 : codeOk planOk F32.plans F32.code = true := by kernel_rfl
noncomputable def F33 : FnI := ⟨bodyOf Tryz.f33, 50, [], .e⟩
theorem fn33 : FnOk Tryz.prog 33 F33 := FnOk.of Tryz.func33 rfl (by kernel_rfl) rfl rfl
theorem pl33 : codeOk planOk F33.plans F33.code = true := by kernel_rfl
noncomputable def F34 : FnI := ⟨bodyOf Tryz.f34, 174, [], (.n none (.n none (.n none (.n none (.n none .e .e) .e) (.n (some [.n 0, .n 1, .n 2, .n 3, .n 4, .n 5, .n 6, .n 7, .n 8, .n 9, .go 10, .x 10, .n 11, .n 12, .fin]) .e .e)) (.n none (.n none (.n none .e .e) .e) (.n none .e .e))) (.n none (.n none (.n none (.n none .e .e) .e) (.n (some [.n 0, .n 1, .n 2, .n 3, .n 4, .n 5, .go 6, .x 6, .fin]) .e .e)) (.n (some [.n 0, .n 1, .n 2, .n 3, .n 4, .n 5, .n 6, .n 7, .n 8, .n 9, .go 10, .x 10, .fin]) (.n none (.n (some [.n 0, .n 1, .n 2, .n 3, .n 4, .n 5, .n 6, .n 7, .n 8, .n 9, .n 10, .n 11, .n 12, .n 13, .n 14, .n 15, .n 16, .n 17, .go 18, .x 18, .fin]) .e .e) .e) (.n none .e .e))))⟩
theorem fn34 : FnOk Tryz.prog 34 F34 := FnOk.of Tryz.func34 rfl (by kernel_rfl) rfl rfl
theorem pl34 : codeOk planOk F34.plans F34.code = true := by kernel_rfl
noncomputable def F35 : FnI := ⟨bodyOf Tryz.f35, 26, [], .e⟩
theorem fn35 : FnOk Tryz.prog 35 F35 := FnOk.of Tryz.func35 rfl (by kernel_rfl) rfl rfl
theorem pl35 : codeOk planOk F35.plans F35.code = true := by kernel_rfl
noncomputable def F36 : FnI := ⟨bodyOf Tryz.f36, 103, [], (.n none (.n none (.n none (.n (some [.n 0, .n 1, .n 2, .n 3, .n 4, .n 5, .n 6, .n 7, .n 8, .n 9, .n 10, .go 11, .x 11, .fin]) .e .e) .e) (.n none .e .e)) (.n none (.n none .e .e) (.n none .e .e)))⟩
theorem fn36 : FnOk Tryz.prog 36 F36 := FnOk.of Tryz.func36 rfl (by kernel_rfl) rfl rfl
theorem pl36 : codeOk planOk F36.plans F36.code = true := by kernel_rfl
noncomputable def F37 : FnI := ⟨bodyOf Tryz.f37, 9, [.tmp 4], .e⟩
theorem fn37 : FnOk Tryz.prog 37 F37 := FnOk.of Tryz.func37 rfl (by kernel_rfl) rfl rfl
theorem pl37 : codeOk planOk F37.plans F37.code = true := by kernel_rfl
noncomputable def F38 : FnI := ⟨bodyOf Tryz.f38, 17, [.tmp 2], .e⟩
theorem fn38 : FnOk Tryz.prog 38 F38 := FnOk.of Tryz.func38 rfl (by kernel_rfl) rfl rfl
theorem pl38 : codeOk planOk F38.plans F38.code = true := by kernel_rfl
noncomputable def F39 : FnI := ⟨bodyOf Tryz.f39, 2, [.cell 0 96], .e⟩
theorem fn39 : FnOk Tryz.prog 39 F39 := FnOk.of Tryz.func39 rfl (by kernel_rfl) rfl rfl
theorem pl39 : codeOk planOk F39.plans F39.code = true := by kernel_rfl
noncomputable def F40 : FnI := ⟨bodyOf Tryz.f40, 28, [.tmp 2], .e⟩
theorem fn40 : FnOk Tryz.prog 40 F40 := FnOk.of Tryz.func40 rfl (by kernel_rfl) rfl rfl
theorem pl40 : codeOk planOk F40.plans F40.code = true := by kernel_rfl
noncomputable def F41 : FnI := ⟨bodyOf Tryz.f41, 14, [.tmp 2], .e⟩
theorem fn41 : FnOk Tryz.prog 41 F41 := FnOk.of Tryz.func41 rfl (by kernel_rfl) rfl rfl
theorem pl41 : codeOk planOk F41.plans F41.code = true := by kernel_rfl
noncomputable def F42 : FnI := ⟨bodyOf Tryz.f42, 8, [.tmp 2], .e⟩
theorem fn42 : FnOk Tryz.prog 42 F42 := FnOk.of Tryz.func42 rfl (by kernel_rfl) rfl rfl
theorem pl42 : codeOk planOk F42.plans F42.code = true := by kernel_rfl
noncomputable def F43 : FnI := ⟨bodyOf Tryz.f43, 54, [.tmp 2], .e⟩
theorem fn43 : FnOk Tryz.prog 43 F43 := FnOk.of Tryz.func43 rfl (by kernel_rfl) rfl rfl
theorem pl43 : codeOk planOk F43.plans F43.code = true := by kernel_rfl
noncomputable def F44 : FnI := ⟨bodyOf Tryz.f44, 24, [], (.n (some [.n 0, .n 1, .n 2, .n 3, .n 4, .n 5, .n 6, .n 7, .n 8, .go 9, .x 9, .go 10, .x 10, .fin]) .e .e)⟩
theorem fn44 : FnOk Tryz.prog 44 F44 := FnOk.of Tryz.func44 rfl (by kernel_rfl) rfl rfl
theorem pl44 : codeOk planOk F44.plans F44.code = true := by kernel_rfl
noncomputable def F45 : FnI := ⟨bodyOf Tryz.f45, 48, [.cell 6 106, .tmp 7], (.n none (.n none (.n none .e .e) .e) (.n none (.n (some [.n 0, .n 1, .n 2, .n 3, .n 4, .n 5, .n 6, .n 7, .n 8, .n 9, .n 10, .n 11, .n 12, .n 13, .go 14, .x 14, .go 15, .x 15, .fin]) .e .e) .e))⟩
theorem fn45 : FnOk Tryz.prog 45 F45 := FnOk.of Tryz.func45 rfl (by kernel_rfl) rfl rfl
theorem pl45 : codeOk planOk F45.plans F45.code = true := by kernel_rfl
noncomputable def F46 : FnI := ⟨bodyOf Tryz.f46, 51, [.tmp 0], .e⟩
theorem fn46 : FnOk Tryz.prog 46 F46 := FnOk.of Tryz.func46 rfl (by kernel_rfl) rfl rfl
theorem pl46 : codeOk planOk F46.plans F46.code = true := by kernel_rfl
noncomputable def F47 : FnI := ⟨bodyOf Tryz.f47, 13, [.tmp 4], .e⟩
theorem fn47 : FnOk Tryz.prog 47 F47 := FnOk.of Tryz.func47 rfl (by kernel_rfl) rfl rfl
theorem pl47 : codeOk planOk F47.plans F47.code = true := by kernel_rfl
noncomputable def F48 : FnI := ⟨bodyOf Tryz.f48, 18, [.tmp 2], .e⟩
theorem fn48 : FnOk Tryz.prog 48 F48 := FnOk.of Tryz.func48 rfl (by kernel_rfl) rfl rfl
theorem pl48 : codeOk planOk F48.plans F48.code = true := by kernel_rfl
noncomputable def F49 : FnI := ⟨bodyOf Tryz.f49, 17, [.tmp 2], .e⟩
theorem fn49 : FnOk Tryz.prog 49 F49 := FnOk.of Tryz.func49 rfl (by kernel_rfl) rfl rfl
theorem pl49 : codeOk planOk F49.plans F49.code = true := by kernel_rfl
noncomputable def F50 : FnI := ⟨bodyOf Tryz.f50, 66, [.tmp 2], (.n none (.n none (.n none .e .e) (.n none .e .e)) (.n (some [.n 0, .n 1, .n 2, .n 3, .n 4, .n 5, .fin]) (.n none .e .e) (.n (some [.n 0, .n 1, .n 2, .n 3, .n 4, .n 5, .n 6, .n 7, .n 8, .n 9, .n 10, .n 11, .n 12, .n 13, .n 14, .n 15, .n 16, .n 17, .n 18, .n 19, .n 20, .n 21, .n 22, .n 23, .n 24, .n 25, .n 26, .n 27, .go 28, .x 28, .n 29, .n 30, .n 31, .n 32, .n 33, .n 34, .n 35, .n 36, .n 37, .n 38, .n 39, .n 40, .n 41, .n 42, .n 43, .n 44, .go 45, .x 45, .fin]) .e .e)))⟩
theorem fn50 : FnOk Tryz.prog 50 F50 := FnOk.of Tryz.func50 rfl (by kernel_rfl) rfl rfl
theorem pl50 : codeOk planOk F50.plans F50.code = true := by kernel_rfl
noncomputable def F51 : FnI := ⟨bodyOf Tryz.f51, 20, [.tmp 4], .e⟩
theorem fn51 : FnOk Tryz.prog 51 F51 := FnOk.of Tryz.func51 rfl (by kernel_rfl) rfl rfl
theorem pl51 : codeOk planOk F51.plans F51.code = true := by kernel_rfl
noncomputable def F52 : FnI := ⟨bodyOf Tryz.f52, 19, [.tmp 4], .e⟩
theorem fn52 : FnOk Tryz.prog 52 F52 := FnOk.of Tryz.func52 rfl (by kernel_rfl) rfl rfl
theorem pl52 : codeOk planOk F52.plans F52.code = true := by kernel_rfl
noncomputable def F53 : FnI := ⟨bodyOf Tryz.f53, 13, [.tmp 4], .e⟩
theorem fn53 : FnOk Tryz.prog 53 F53 := FnOk.of Tryz.func53 rfl (by kernel_rfl) rfl rfl
theorem pl53 : codeOk planOk F53.plans F53.code = true := by kernel_rfl
noncomputable def F54 : FnI := ⟨bodyOf Tryz.f54, 136, [], (.n none (.n none (.n none (.n none .e .e) .e) (.n none (.n none .e .e) .e)) (.n none (.n none (.n (some [.n 0, .n 1, .n 2, .go 3, .x 3, .n 4, .n 5, .n 6, .n 7, .n 8, .n 9, .n 10, .n 11, .n 12, .n 13, .n 14, .n 15, .n 16, .n 17, .n 18, .n 19, .n 20, .n 21, .n 22, .n 23, .go 24, .x 24, .n 25, .n 26, .n 27, .fin]) .e .e) .e) (.n none (.n (some [.n 0, .n 1, .n 2, .n 3, .n 4, .n 5, .n 6, .n 7, .n 8, .n 9, .n 10, .n 11, .go 12, .x 12, .fin]) .e .e) .e)))⟩
theorem fn54 : FnOk Tryz.prog 54 F54 := FnOk.of Tryz.func54 rfl (by kernel_rfl) rfl rfl
theorem pl54 : codeOk planOk F54.plans F54.code = true := by kernel_rfl
noncomputable def F55 : FnI := ⟨bodyOf Tryz.f55, 10, [.cell 2 30], .e⟩
theorem fn55 : FnOk Tryz.prog 55 F55 := FnOk.of Tryz.func55 rfl (by kernel_rfl) rfl rfl
theorem pl55 : codeOk planOk F55.plans F55.code = true := by kernel_rfl
noncomputable def F56 : FnI := ⟨bodyOf Tryz.f56, 52, [], (.n (some [.n 0, .n 1, .n 2, .n 3, .n 4, .n 5, .n 6, .n 7, .n 8, .n 9, .n 10, .n 11, .n 12, .n 13, .n 14, .n 15, .n 16, .n 17, .n 18, .n 19, .n 20, .n 21, .n 22, .n 23, .n 24, .n 25, .n 26, .n 27, .n 28, .n 29, .n 30, .n 31, .n 32, .n 33, .n 34, .n 35, .n 36, .n 37, .n 38, .n 39, .n 40, .n 41, .n 42, .n 43, .fin]) .e .e)⟩
theorem fn56 : FnOk Tryz.prog 56 F56 := FnOk.of Tryz.func56 rfl (by kernel_rfl) rfl rfl
theorem pl56 : codeOk planOk F56.plans F56.code = true := by kernel_rfl
noncomputable def F57 : FnI := ⟨bodyOf Tryz.f57, 95, [], (.n (some [.n 0, .n 1, .n 2, .n 3, .n 4, .n 5, .n 6, .n 7, .n 8, .n 9, .n 10, .n 11, .n 12, .n 13, .n 14, .n 15, .n 16, .n 17, .n 18, .n 19, .n 20, .n 21, .go 22, .x 22, .n 23, .go 24, .x 24, .fin]) (.n none (.n (some [.n 0, .n 1, .n 2, .n 3, .n 4, .n 5, .n 6, .n 7, .n 8, .n 9, .n 10, .n 11, .n 12, .n 13, .n 14, .go 15, .x 15, .fin]) .e .e) (.n (some [.n 0, .n 1, .n 2, .n 3, .n 4, .n 5, .n 6, .n 7, .n 8, .n 9, .n 10, .n 11, .n 12, .n 13, .n 14, .go 15, .x 15, .fin]) .e .e)) (.n none (.n none .e .e) .e))⟩
theorem fn57 : FnOk Tryz.prog 57 F57 := FnOk.of Tryz.func57 rfl (by kernel_rfl) rfl rfl
theorem pl57 : codeOk planOk F57.plans F57.code = true := by kernel_rfl
noncomputable def F58 : FnI := ⟨bodyOf Tryz.f58, 126, [], (.n none (.n none (.n (some [.n 0, .n 1, .n 2, .n 3, .n 4, .n 5, .n 6, .n 7, .n 8, .n 9, .n 10, .n 11, .n 12, .n 13, .n 14, .n 15, .n 16, .n 17, .n 18, .n 20, .n 21, .n 22, .n 25, .n 26, .n 27, .go 19, .x 19, .r 9, .r 14, .r 20, .r 21, .r 22, .n 23, .r 25, .r 26, .r 27, .go 24, .x 24, .r 14, .r 25, .r 26, .r 27, .n 28, .go 29, .x 29, .fin]) .e .e) .e) (.n none .e .e))⟩
theorem fn58 : FnOk Tryz.prog 58 F58 := FnOk.of Tryz.func58 rfl (by kernel_rfl) rfl rfl
theorem pl58 : codeOk planOk F58.plans F58.code = true := by kernel_rfl
noncomputable def F59 : FnI := ⟨bodyOf Tryz.f59, 50, [], .e⟩
theorem fn59 : FnOk Tryz.prog 59 F59 := FnOk.of Tryz.func59 rfl (by kernel_rfl) rfl rfl
theorem pl59 : codeOk planOk F59.plans F59.code = true := by kernel_rfl
noncomputable def F60 : FnI := ⟨bodyOf Tryz.f60, 8, [.tmp 4], .e⟩
theorem fn60 : FnOk Tryz.prog 60 F60 := FnOk.of Tryz.func60 rfl (by kernel_rfl) rfl rfl
theorem pl60 : codeOk planOk F60.plans F60.code = true := by kernel_rfl
noncomputable def F61 : FnI := ⟨bodyOf Tryz.f61, 21, [.tmp 2], .e⟩
theorem fn61 : FnOk Tryz.prog 61 F61 := FnOk.of Tryz.func61 rfl (by kernel_rfl) rfl rfl
theorem pl61 : codeOk planOk F61.plans F61.code = true := by kernel_rfl
noncomputable def F62 : FnI := ⟨bodyOf Tryz.f62, 9, [.tmp 4], .e⟩
theorem fn62 : FnOk Tryz.prog 62 F62 := FnOk.of Tryz.func62 rfl (by kernel_rfl) rfl rfl
theorem pl62 : codeOk planOk F62.plans F62.code = true := by kernel_rfl
noncomputable def F63 : FnI := ⟨bodyOf Tryz.f63, 6, [.tmp 2], .e⟩
theorem fn63 : FnOk Tryz.prog 63 F63 := FnOk.of Tryz.func63 rfl (by kernel_rfl) rfl rfl
theorem pl63 : codeOk planOk F63.plans F63.code = true := by kernel_rfl
noncomputable def F64 : FnI := ⟨bodyOf Tryz.f64, 37, [.tmp 2], .e⟩
theorem fn64 : FnOk Tryz.prog 64 F64 := FnOk.of Tryz.func64 rfl (by kernel_rfl) rfl rfl
theorem pl64 : codeOk planOk F64.plans F64.code = true := by kernel_rfl
noncomputable def F65 : FnI := ⟨bodyOf Tryz.f65, 11, [.tmp 4], .e⟩
theorem fn65 : FnOk Tryz.prog 65 F65 := FnOk.of Tryz.func65 rfl (by kernel_rfl) rfl rfl
theorem pl65 : codeOk planOk F65.plans F65.code = true := by kernel_rfl
noncomputable def F66 : FnI := ⟨bodyOf Tryz.f66, 17, [.tmp 4], (.n none (.n (some [.n 0, .n 1, .n 2, .n 3, .n 5, .n 6, .n 7, .n 8, .go 4, .x 4, .r 5, .r 6, .r 7, .r 8, .go 9, .x 9, .go 10, .x 10, .go 11, .x 11, .go 12, .x 12, .fin]) .e .e) .e)⟩
theorem fn66 : FnOk Tryz.prog 66 F66 := FnOk.of Tryz.func66 rfl (by kernel_rfl) rfl rfl
theorem pl66 : codeOk planOk F66.plans F66.code = true := by kernel_rfl
noncomputable def F67 : FnI := ⟨bodyOf Tryz.f67, 18, [.tmp 2], .e⟩
theorem fn67 : FnOk Tryz.prog 67 F67 := FnOk.of Tryz.func67 rfl (by kernel_rfl) rfl rfl
theorem pl67 : codeOk planOk F67.plans F67.code = true := by kernel_rfl
noncomputable def F68 : FnI := ⟨bodyOf Tryz.f68, 20, [.tmp 4], .e⟩
theorem fn68 : FnOk Tryz.prog 68 F68 := FnOk.of Tryz.func68 rfl (by kernel_rfl) rfl rfl
theorem pl68 : codeOk planOk F68.plans F68.code = true := by kernel_rfl
noncomputable def F69 : FnI := ⟨bodyOf Tryz.f69, 65, [], (.n none (.n (some [.n 0, .n 1, .n 2, .n 3, .n 4, .n 5, .n 6, .n 7, .n 8, .n 9, .n 10, .n 11, .n 12, .n 13, .n 14, .go 15, .x 15, .r 6, .r 7, .r 8, .r 9, .n 16, .n 17, .fin]) (.n (some [.n 0, .n 1, .n 2, .n 3, .n 4, .n 5, .n 6, .n 7, .n 8, .n 9, .n 10, .n 11, .n 12, .n 13, .n 14, .go 15, .x 15, .r 6, .r 7, .r 8, .r 9, .n 16, .n 17, .fin]) .e .e) .e) (.n none .e .e))⟩
theorem fn69 : FnOk Tryz.prog 69 F69 := FnOk.of Tryz.func69 rfl (by kernel_rfl) rfl rfl
theorem pl69 : codeOk planOk F69.plans F69.code = true := by kernel_rfl
noncomputable def F70 : FnI := ⟨bodyOf Tryz.f70, 47, [.tmp 10, .tmp 11, .tmp 12], .e⟩
theorem fn70 : FnOk Tryz.prog 70 F70 := FnOk.of Tryz.func70 rfl (by kernel_rfl) rfl rfl
theorem pl70 : codeOk planOk F70.plans F70.code = true := by kernel_rfl
noncomputable def F71 : FnI := ⟨bodyOf Tryz.f71, 16, [.cell 0 136], .e⟩
theorem fn71 : FnOk Tryz.prog 71 F71 := FnOk.of Tryz.func71 rfl (by kernel_rfl) rfl rfl
theorem pl71 : codeOk planOk F71.plans F71.code = true := by kernel_rfl
noncomputable def F72 : FnI := ⟨bodyOf Tryz.f72, 31, [.tmp 4, .tmp 5], .e⟩
theorem fn72 : FnOk Tryz.prog 72 F72 := FnOk.of Tryz.func72 rfl (by kernel_rfl) rfl rfl
theorem pl72 : codeOk planOk F72.plans F72.code = true := by kernel_rfl
noncomputable def F73 : FnI := ⟨bodyOf Tryz.f73, 87, [.tmp 0], .e⟩
theorem fn73 : FnOk Tryz.prog 73 F73 := FnOk.of Tryz.func73 rfl (by kernel_rfl) rfl rfl
theorem pl73 : codeOk planOk F73.plans F73.code = true := by kernel_rfl
noncomputable def F74 : FnI := ⟨bodyOf Tryz.f74, 26, [.tmp 4], .e⟩
theorem fn74 : FnOk Tryz.prog 74 F74 := FnOk.of Tryz.func74 rfl (by kernel_rfl) rfl rfl
theorem pl74 : codeOk planOk F74.plans F74.code = true := by kernel_rfl
noncomputable def F75 : FnI := ⟨bodyOf Tryz.f75, 24, [.tmp 4], (.n none (.n (some [.n 0, .n 1, .n 2, .n 3, .n 4, .n 5, .n 6, .n 7, .n 8, .n 9, .n 10, .n 11, .n 12, .n 13, .n 14, .n 15, .n 16, .n 17, .n 18, .go 19, .x 19, .fin]) .e .e) .e)⟩
theorem fn75 : FnOk Tryz.prog 75 F75 := FnOk.of Tryz.func75 rfl (by kernel_rfl) rfl rfl
theorem pl75 : codeOk planOk F75.plans F75.code = true := by kernel_rfl
noncomputable def F76 : FnI := ⟨bodyOf Tryz.f76, 21, [.tmp 6], .e⟩
theorem fn76 : FnOk Tryz.prog 76 F76 := FnOk.of Tryz.func76 rfl (by kernel_rfl) rfl rfl
theorem pl76 : codeOk planOk F76.plans F76.code = true := by kernel_rfl
noncomputable def F77 : FnI := ⟨bodyOf Tryz.f77, 19, [.tmp 4], .e⟩
theorem fn77 : FnOk Tryz.prog 77 F77 := FnOk.of Tryz.func77 rfl (by kernel_rfl) rfl rfl
theorem pl77 : codeOk planOk F77.plans F77.code = true := by kernel_rfl
noncomputable def F78 : FnI := ⟨bodyOf Tryz.f78, 8, [.tmp 2], .e⟩
theorem fn78 : FnOk Tryz.prog 78 F78 := FnOk.of Tryz.func78 rfl (by kernel_rfl) rfl rfl
theorem pl78 : codeOk planOk F78.plans F78.code = true := by kernel_rfl
noncomputable def F79 : FnI := ⟨bodyOf Tryz.f79, 9, [], .e⟩
theorem fn79 : FnOk Tryz.prog 79 F79 := FnOk.of Tryz.func79 rfl (by kernel_rfl) rfl rfl
theorem pl79 : codeOk planOk F79.plans F79.code = true := by kernel_rfl
noncomputable def F80 : FnI := ⟨bodyOf Tryz.f80, 6, [.tmp 2], .e⟩
theorem fn80 : FnOk Tryz.prog 80 F80 := FnOk.of Tryz.func80 rfl (by kernel_rfl) rfl rfl
theorem pl80 : codeOk planOk F80.plans F80.code = true := by kernel_rfl
noncomputable def F81 : FnI := ⟨bodyOf Tryz.f81, 10, [.tmp 2], .e⟩
theorem fn81 : FnOk Tryz.prog 81 F81 := FnOk.of Tryz.func81 rfl (by kernel_rfl) rfl rfl
theorem pl81 : codeOk planOk F81.plans F81.code = true := by kernel_rfl
noncomputable def F82 : FnI := ⟨bodyOf Tryz.f82, 103, [.tmp 2], (.n none (.n none (.n none (.n none .e .e) .e) (.n none (.n none .e .e) .e)) (.n none (.n none (.n none .e .e) .e) (.n none (.n (some [.n 0, .n 1, .n 2, .n 3, .n 4, .n 5, .go 6, .x 6, .r 3, .r 4, .r 5, .go 7, .x 7, .fin]) .e .e) .e)))⟩
theorem fn82 : FnOk Tryz.prog 82 F82 := FnOk.of Tryz.func82 rfl (by kernel_rfl) rfl rfl
theorem pl82 : codeOk planOk F82.plans F82.code = true := by kernel_rfl
noncomputable def F83 : FnI := ⟨bodyOf Tryz.f83, 77, [.tmp 6, .tmp 7], (.n none (.n none (.n none (.n none .e .e) (.n (some [.n 0, .n 1, .n 2, .n 3, .n 4, .n 5, .n 6, .n 7, .n 8, .n 9, .n 10, .n 13, .n 14, .go 11, .x 11, .r 0, .r 1, .r 2, .r 3, .r 4, .r 5, .r 6, .r 7, .r 8, .r 9, .r 13, .r 14, .go 12, .x 12, .r 0, .r 1, .r 2, .r 13, .r 14, .n 15, .go 16, .x 16, .fin]) .e .e)) (.n none (.n none .e .e) .e)) (.n none (.n none (.n none .e .e) .e) (.n none (.n none .e .e) .e)))⟩
theorem fn83 : FnOk Tryz.prog 83 F83 := FnOk.of Tryz.func83 rfl (by kernel_rfl) rfl rfl
theorem pl83 : codeOk planOk F83.plans F83.code = true := by kernel_rfl
noncomputable def F84 : FnI := ⟨bodyOf Tryz.f84, 59, [.tmp 6, .tmp 7], .e⟩
theorem fn84 : FnOk Tryz.prog 84 F84 := FnOk.of Tryz.func84 rfl (by kernel_rfl) rfl rfl
theorem pl84 : codeOk planOk F84.plans F84.code = true := by kernel_rfl
noncomputable def F85 : FnI := ⟨bodyOf Tryz.f85, 22, [.cell 4 160, .tmp 5], .e⟩
theorem fn85 : FnOk Tryz.prog 85 F85 := FnOk.of Tryz.func85 rfl (by kernel_rfl) rfl rfl
theorem pl85 : codeOk planOk F85.plans F85.code = true := by kernel_rfl
noncomputable def F86 : FnI := ⟨bodyOf Tryz.f86, 17, [.tmp 4, .tmp 5], .e⟩
theorem fn86 : FnOk Tryz.prog 86 F86 := FnOk.of Tryz.func86 rfl (by kernel_rfl) rfl rfl
theorem pl86 : codeOk planOk F86.plans F86.code = true := by kernel_rfl
noncomputable def F87 : FnI := ⟨bodyOf Tryz.f87, 15, [.cell 4 172], .e⟩
theorem fn87 : FnOk Tryz.prog 87 F87 := FnOk.of Tryz.func87 rfl (by kernel_rfl) rfl rfl
theorem pl87 : codeOk planOk F87.plans F87.code = true := by kernel_rfl
noncomputable def F88 : FnI := ⟨bodyOf Tryz.f88, 11, [.cell 4 175, .tmp 5], .e⟩
theorem fn88 : FnOk Tryz.prog 88 F88 := FnOk.of Tryz.func88 rfl (by kernel_rfl) rfl rfl
theorem pl88 : codeOk planOk F88.plans F88.code = true := by kernel_rfl
noncomputable def F89 : FnI := ⟨bodyOf Tryz.f89, 2, [.cell 0 179], .e⟩
theorem fn89 : FnOk Tryz.prog 89 F89 := FnOk.of Tryz.func89 rfl (by kernel_rfl) rfl rfl
theorem pl89 : codeOk planOk F89.plans F89.code = true := by kernel_rfl
noncomputable def F90 : FnI := ⟨bodyOf Tryz.f90, 97, [.cell 8 185, .cell 9 189, .tmp 10], (.n none (.n (some [.n 0, .n 1, .n 3, .g 5, .go 2, .x 2, .r 3, .n 4, .g 5, .go 6, .b 5, .x 6, .fin]) (.n none (.n none (.n (some [.n 0, .n 1, .n 2, .n 3, .n 4, .n 5, .n 6, .n 7, .n 8, .n 9, .n 10, .n 11, .n 12, .n 13, .n 14, .n 15, .n 16, .n 17, .n 18, .n 19, .go 20, .x 20, .r 1, .r 13, .r 14, .r 15, .r 16, .r 17, .r 18, .r 19, .go 21, .x 21, .r 13, .r 14, .r 15, .r 16, .r 17, .r 18, .r 19, .go 22, .x 22, .fin]) .e .e) .e) (.n (some [.n 0, .n 1, .go 2, .x 2, .r 0, .r 1, .go 3, .x 3, .r 0, .r 1, .go 4, .x 4, .n 5, .go 6, .x 6, .fin]) .e .e)) (.n none (.n none .e .e) (.n (some [.n 0, .n 1, .go 2, .x 2, .r 0, .r 1, .n 3, .n 4, .go 5, .x 5, .r 0, .go 6, .x 6, .go 7, .x 7, .fin]) .e .e))) (.n none (.n none (.n (some [.n 0, .n 1, .n 2, .n 5, .go 3, .x 3, .r 0, .r 1, .r 2, .n 4, .r 5, .go 6, .x 6, .n 7, .n 8, .n 9, .go 10, .x 10, .r 9, .go 11, .x 11, .fin]) .e .e) (.n none .e .e)) (.n none (.n none .e .e) (.n none .e .e))))⟩
theorem fn90 : FnOk Tryz.prog 90 F90 := FnOk.of Tryz.func90 rfl (by kernel_rfl) rfl rfl
theorem pl90 : codeOk planOk F90.plans F90.code = true := by kernel_rfl
noncomputable def F91 : FnI := ⟨bodyOf Tryz.f91, 63, [], .e⟩
theorem fn91 : FnOk Tryz.prog 91 F91 := FnOk.of Tryz.func91 rfl (by kernel_rfl) rfl rfl
theorem pl91 : codeOk planOk F91.plans F91.code = true := by kernel_rfl
noncomputable def F92 : FnI := ⟨bodyOf Tryz.f92, 17, [.tmp 2], .e⟩
theorem fn92 : FnOk Tryz.prog 92 F92 := FnOk.of Tryz.func92 rfl (by kernel_rfl) rfl rfl
theorem pl92 : codeOk planOk F92.plans F92.code = true := by kernel_rfl
noncomputable def F93 : FnI := ⟨bodyOf Tryz.f93, 6, [.tmp 2], .e⟩
theorem fn93 : FnOk Tryz.prog 93 F93 := FnOk.of Tryz.func93 rfl (by kernel_rfl) rfl rfl
theorem pl93 : codeOk planOk F93.plans F93.code = true := by kernel_rfl
noncomputable def F94 : FnI := ⟨bodyOf Tryz.f94, 36, [.tmp 2], .e⟩
theorem fn94 : FnOk Tryz.prog 94 F94 := FnOk.of Tryz.func94 rfl (by kernel_rfl) rfl rfl
theorem pl94 : codeOk planOk F94.plans F94.code = true := by kernel_rfl
noncomputable def F95 : FnI := ⟨bodyOf Tryz.f95, 9, [.tmp 4], .e⟩
theorem fn95 : FnOk Tryz.prog 95 F95 := FnOk.of Tryz.func95 rfl (by kernel_rfl) rfl rfl
theorem pl95 : codeOk planOk F95.plans F95.code = true := by kernel_rfl
noncomputable def F96 : FnI := ⟨bodyOf Tryz.f96, 6, [.tmp 2], .e⟩
theorem fn96 : FnOk Tryz.prog 96 F96 := FnOk.of Tryz.func96 rfl (by kernel_rfl) rfl rfl
theorem pl96 : codeOk planOk F96.plans F96.code = true := by kernel_rfl
noncomputable def F97 : FnI := ⟨bodyOf Tryz.f97, 38, [.tmp 2], .e⟩
theorem fn97 : FnOk Tryz.prog 97 F97 := FnOk.of Tryz.func97 rfl (by kernel_rfl) rfl rfl
theorem pl97 : codeOk planOk F97.plans F97.code = true := by kernel_rfl
noncomputable def F98 : FnI := ⟨bodyOf Tryz.f98, 15, [.tmp 6], .e⟩
theorem fn98 : FnOk Tryz.prog 98 F98 := FnOk.of Tryz.func98 rfl (by kernel_rfl) rfl rfl
theorem pl98 : codeOk planOk F98.plans F98.code = true := by kernel_rfl
noncomputable def F99 : FnI := ⟨bodyOf Tryz.f99, 17, [.tmp 0], .e⟩
theorem fn99 : FnOk Tryz.prog 99 F99 := FnOk.of Tryz.func99 rfl (by kernel_rfl) rfl rfl
theorem pl99 : codeOk planOk F99.plans F99.code = true := by kernel_rfl
noncomputable def F100 : FnI := ⟨bodyOf Tryz.f100, 16, [.tmp 4], .e⟩
theorem fn100 : FnOk Tryz.prog 100 F100 := FnOk.of Tryz.func100 rfl (by kernel_rfl) rfl rfl
theorem pl100 : codeOk planOk F100.plans F100.code = true := by kernel_rfl
noncomputable def F101 : FnI := ⟨bodyOf Tryz.f101, 16, [.tmp 2], .e⟩
theorem fn101 : FnOk Tryz.prog 101 F101 := FnOk.of Tryz.func101 rfl (by kernel_rfl) rfl rfl
theorem pl101 : codeOk planOk F101.plans F101.code = true := by kernel_rfl
noncomputable def F102 : FnI := ⟨bodyOf Tryz.f102, 14, [.tmp 4], .e⟩
theorem fn102 : FnOk Tryz.prog 102 F102 := FnOk.of Tryz.func102 rfl (by kernel_rfl) rfl rfl
theorem pl102 : codeOk planOk F102.plans F102.code = true := by kernel_rfl
noncomputable def F103 : FnI := ⟨bodyOf Tryz.f103, 62, [], .e⟩
theorem fn103 : FnOk Tryz.prog 103 F103 := FnOk.of Tryz.func103 rfl (by kernel_rfl) rfl rfl
theorem pl103 : codeOk planOk F103.plans F103.code = true := by kernel_rfl
noncomputable def F104 : FnI := ⟨bodyOf Tryz.f104, 15, [.tmp 6], .e⟩
theorem fn104 : FnOk Tryz.prog 104 F104 := FnOk.of Tryz.func104 rfl (by kernel_rfl) rfl rfl
theorem pl104 : codeOk planOk F104.plans F104.code = true := by kernel_rfl
noncomputable def F105 : FnI := ⟨bodyOf Tryz.f105, 43, [.cell 4 160], (.n none (.n (some [.n 0, .n 1, .n 2, .n 3, .n 4, .n 5, .n 6, .go 7, .x 7, .r 0, .r 1, .r 2, .r 3, .r 4, .r 5, .r 6, .go 8, .x 8, .fin]) .e .e) .e)⟩
theorem fn105 : FnOk Tryz.prog 105 F105 := FnOk.of Tryz.func105 rfl (by kernel_rfl) rfl rfl
theorem pl105 : codeOk planOk F105.plans F105.code = true := by kernel_rfl
noncomputable def F106 : FnI := ⟨bodyOf Tryz.f106, 23, [.tmp 4], .e⟩
theorem fn106 : FnOk Tryz.prog 106 F106 := FnOk.of Tryz.func106 rfl (by kernel_rfl) rfl rfl
theorem pl106 : codeOk planOk F106.plans F106.code = true := by kernel_rfl
noncomputable def F107 : FnI := ⟨bodyOf Tryz.f107, 17, [.tmp 4], .e⟩
theorem fn107 : FnOk Tryz.prog 107 F107 := FnOk.of Tryz.func107 rfl (by kernel_rfl) rfl rfl
theorem pl107 : codeOk planOk F107.plans F107.code = true := by kernel_rfl
noncomputable def F108 : FnI := ⟨bodyOf Tryz.f108, 28, [.cell 6 175, .tmp 7], .e⟩
theorem fn108 : FnOk Tryz.prog 108 F108 := FnOk.of Tryz.func108 rfl (by kernel_rfl) rfl rfl
theorem pl108 : codeOk planOk F108.plans F108.code = true := by kernel_rfl
noncomputable def F109 : FnI := ⟨bodyOf Tryz.f109, 13, [.cell 2 167], .e⟩
theorem fn109 : FnOk Tryz.prog 109 F109 := FnOk.of Tryz.func109 rfl (by kernel_rfl) rfl rfl
theorem pl109 : codeOk planOk F109.plans F109.code = true := by kernel_rfl
noncomputable def F110 : FnI := ⟨bodyOf Tryz.f110, 31, [.tmp 8, .tmp 9], .e⟩
theorem fn110 : FnOk Tryz.prog 110 F110 := FnOk.of Tryz.func110 rfl (by kernel_rfl) rfl rfl
theorem pl110 : codeOk planOk F110.plans F110.code = true := by kernel_rfl
noncomputable def F111 : FnI := ⟨bodyOf Tryz.f111, 48, [.cell 4 189, .tmp 5], .e⟩
theorem fn111 : FnOk Tryz.prog 111 F111 := FnOk.of Tryz.func111 rfl (by kernel_rfl) rfl rfl
theorem pl111 : codeOk planOk F111.plans F111.code = true := by kernel_rfl
noncomputable def F112 : FnI := ⟨bodyOf Tryz.f112, 53, [], (.n none (.n none (.n none .e .e) (.n none .e .e)) (.n none (.n (some [.n 0, .n 1, .n 2, .n 3, .n 4, .n 5, .n 6, .n 7, .n 8, .n 9, .n 10, .n 11, .n 12, .n 13, .go 14, .x 14, .n 15, .n 16, .fin]) .e .e) (.n (some [.n 0, .n 1, .n 2, .n 3, .n 4, .n 5, .n 6, .n 7, .n 8, .n 9, .n 10, .n 11, .n 12, .n 13, .n 14, .go 15, .x 15, .r 2, .r 3, .r 4, .n 16, .go 17, .x 17, .fin]) .e .e)))⟩
theorem fn112 : FnOk Tryz.prog 112 F112 := FnOk.of Tryz.func112 rfl (by kernel_rfl) rfl rfl
theorem pl112 : codeOk planOk F112.plans F112.code = true := by kernel_rfl
noncomputable def F113 : FnI := ⟨bodyOf Tryz.f113, 220, [], (.n none (.n none (.n none (.n none (.n none (.n none .e .e) .e) (.n (some [.n 0, .n 1, .n 2, .n 3, .n 4, .n 5, .n 6, .n 7, .n 8, .n 9, .n 10, .n 11, .n 12, .n 13, .n 14, .go 15, .x 15, .r 2, .r 3, .r 4, .n 16, .go 17, .x 17, .fin]) .e .e)) (.n (some [.n 0, .n 1, .n 2, .n 3, .n 4, .n 5, .n 6, .n 7, .n 8, .n 9, .n 10, .n 11, .n 12, .n 13, .n 14, .go 15, .x 15, .r 2, .r 3, .r 4, .n 16, .go 17, .x 17, .fin]) (.n none (.n (some [.n 0, .n 1, .n 2, .n 3, .n 4, .n 5, .n 6, .n 7, .n 8, .n 9, .n 10, .go 11, .x 11, .n 12, .n 13, .fin]) .e .e) .e) (.n none .e .e))) (.n (some [.n 0, .n 1, .n 2, .n 3, .n 4, .n 5, .n 6, .n 7, .n 8, .go 9, .x 9, .n 10, .fin]) (.n none (.n (some [.n 0, .n 1, .n 2, .n 3, .n 4, .n 5, .n 6, .n 7, .n 8, .go 9, .x 9, .n 10, .n 11, .fin]) (.n none .e .e) .e) (.n none .e .e)) (.n none (.n none .e .e) (.n none .e .e)))) (.n none (.n none (.n none (.n none (.n none .e .e) .e) (.n none .e .e)) (.n none (.n none .e .e) (.n none .e .e))) (.n none (.n none (.n none (.n none .e .e) .e) (.n none .e .e)) (.n none (.n none .e .e) (.n none .e .e)))))⟩
theorem fn113 : FnOk Tryz.prog 113 F113 := FnOk.of Tryz.func113 rfl (by kernel_rfl) rfl rfl
theorem pl113 : codeOk planOk F113.plans F113.code = true := by kernel_rfl
noncomputable def F114 : FnI := ⟨bodyOf Tryz.f114, 9, [.tmp 4], .e⟩
theorem fn114 : FnOk Tryz.prog 114 F114 := FnOk.of Tryz.func114 rfl (by kernel_rfl) rfl rfl
theorem pl114 : codeOk planOk F114.plans F114.code = true := by kernel_rfl
noncomputable def F115 : FnI := ⟨bodyOf Tryz.f115, 6, [.tmp 2], .e⟩
theorem fn115 : FnOk Tryz.prog 115 F115 := FnOk.of Tryz.func115 rfl (by kernel_rfl) rfl rfl
theorem pl115 : codeOk planOk F115.plans F115.code = true := by kernel_rfl
noncomputable def F116 : FnI := ⟨bodyOf Tryz.f116, 27, [.tmp 4], .e⟩
theorem fn116 : FnOk Tryz.prog 116 F116 := FnOk.of Tryz.func116 rfl (by kernel_rfl) rfl rfl
theorem pl116 : codeOk planOk F116.plans F116.code = true := by kernel_rfl
noncomputable def F117 : FnI := ⟨bodyOf Tryz.f117, 19, [.tmp 4], .e⟩
theorem fn117 : FnOk Tryz.prog 117 F117 := FnOk.of Tryz.func117 rfl (by kernel_rfl) rfl rfl
theorem pl117 : codeOk planOk F117.plans F117.code = true := by kernel_rfl
noncomputable def F118 : FnI := ⟨bodyOf Tryz.f118, 6, [.tmp 4], .e⟩
theorem fn118 : FnOk Tryz.prog 118 F118 := FnOk.of Tryz.func118 rfl (by kernel_rfl) rfl rfl
theorem pl118 : codeOk planOk F118.plans F118.code = true := by kernel_rfl
noncomputable def F119 : FnI := ⟨bodyOf Tryz.f119, 10, [.tmp 2], .e⟩
theorem fn119 : FnOk Tryz.prog 119 F119 := FnOk.of Tryz.func119 rfl (by kernel_rfl) rfl rfl
theorem pl119 : codeOk planOk F119.plans F119.code = true := by kernel_rfl
noncomputable def F120 : FnI := ⟨bodyOf Tryz.f120, 14, [.tmp 3], (.n none (.n (some [.n 0, .n 1, .n 2, .n 3, .n 4, .n 5, .n 6, .n 7, .n 8, .n 9, .go 10, .x 10, .fin]) .e .e) .e)⟩
theorem fn120 : FnOk Tryz.prog 120 F120 := FnOk.of Tryz.func120 rfl (by kernel_rfl) rfl rfl
theorem pl120 : codeOk planOk F120.plans F120.code = true := by kernel_rfl
noncomputable def F121 : FnI := ⟨bodyOf Tryz.f121, 10, [.tmp 2], .e⟩
theorem fn121 : FnOk Tryz.prog 121 F121 := FnOk.of Tryz.func121 rfl (by kernel_rfl) rfl rfl
theorem pl121 : codeOk planOk F121.plans F121.code = true := by kernel_rfl
noncomputable def F122 : FnI := ⟨bodyOf Tryz.f122, 10, [.tmp 2], .e⟩
theorem fn122 : FnOk Tryz.prog 122 F122 := FnOk.of Tryz.func122 rfl (by kernel_rfl) rfl rfl
theorem pl122 : codeOk planOk F122.plans F122.code = true := by kernel_rfl
noncomputable def F123 : FnI := ⟨bodyOf Tryz.f123, 8, [.tmp 3], .e⟩
theorem fn123 : FnOk Tryz.prog 123 F123 := FnOk.of Tryz.func123 rfl (by kernel_rfl) rfl rfl
theorem pl123 : codeOk planOk F123.plans F123.code = true := by kernel_rfl
noncomputable def F124 : FnI := ⟨bodyOf Tryz.f124, 12, [.tmp 4], (.n none (.n (some [.n 0, .n 1, .n 2, .n 3, .n 4, .n 5, .n 6, .go 7, .x 7, .fin]) .e .e) .e)⟩
theorem fn124 : FnOk Tryz.prog 124 F124 := FnOk.of Tryz.func124 rfl (by kernel_rfl) rfl rfl
theorem pl124 : codeOk planOk F124.plans F124.code = true := by kernel_rfl
noncomputable def F125 : FnI := ⟨bodyOf Tryz.f125, 11, [.tmp 2], .e⟩
theorem fn125 : FnOk Tryz.prog 125 F125 := FnOk.of Tryz.func125 rfl (by kernel_rfl) rfl rfl
theorem pl125 : codeOk planOk F125.plans F125.code = true := by kernel_rfl
noncomputable def F126 : FnI := ⟨bodyOf Tryz.f126, 12, [.tmp 2], .e⟩
theorem fn126 : FnOk Tryz.prog 126 F126 := FnOk.of Tryz.func126 rfl (by kernel_rfl) rfl rfl
theorem pl126 : codeOk planOk F126.plans F126.code = true := by kernel_rfl
noncomputable def F127 : FnI := ⟨bodyOf Tryz.f127, 6, [.tmp 2], .e⟩
theorem fn127 : FnOk Tryz.prog 127 F127 := FnOk.of Tryz.func127 rfl (by kernel_rfl) rfl rfl
theorem pl127 : codeOk planOk F127.plans F127.code = true := by kernel_rfl
noncomputable def F128 : FnI := ⟨bodyOf Tryz.f128, 17, [.tmp 2], .e⟩
theorem fn128 : FnOk Tryz.prog 128 F128 := FnOk.of Tryz.func128 rfl (by kernel_rfl) rfl rfl
theorem pl128 : codeOk planOk F128.plans F128.code = true := by kernel_rfl
noncomputable def F129 : FnI := ⟨bodyOf Tryz.f129, 90, [], (.n none (.n none (.n none (.n none (.n (some [.n 0, .n 1, .n 2, .n 3, .n 4, .n 5, .n 6, .n 7, .fin]) .e .e) .e) (.n none .e .e)) (.n none (.n none (.n (some [.n 0, .n 1, .n 2, .n 3, .n 4, .n 5, .n 6, .go 7, .x 7, .r 0, .r 1, .r 2, .r 3, .r 4, .go 8, .x 8, .r 0, .n 9, .n 10, .go 11, .x 11, .fin]) .e .e) .e) (.n none .e .e))) (.n (some [.n 0, .n 1, .n 2, .n 3, .go 4, .x 4, .r 1, .n 5, .n 6, .go 7, .x 7, .fin]) (.n none (.n none (.n (some [.n 0, .n 1, .n 2, .n 3, .n 4, .n 5, .go 6, .x 6, .fin]) .e .e) .e) (.n none .e .e)) (.n none (.n none .e .e) (.n (some [.n 0, .n 1, .n 2, .n 3, .n 4, .n 5, .go 6, .x 6, .r 0, .r 1, .r 2, .r 3, .r 4, .go 7, .x 7, .r 0, .n 8, .n 9, .go 10, .x 10, .fin]) .e .e))))⟩
theorem fn129 : FnOk Tryz.prog 129 F129 := FnOk.of Tryz.func129 rfl (by kernel_rfl) rfl rfl
theorem pl129 : codeOk planOk F129.plans F129.code = true := by kernel_rfl
noncomputable def F130 : FnI := ⟨bodyOf Tryz.f130, 9, [.tmp 4], .e⟩
theorem fn130 : FnOk Tryz.prog 130 F130 := FnOk.of Tryz.func130 rfl (by kernel_rfl) rfl rfl
theorem pl130 : codeOk planOk F130.plans F130.code = true := by kernel_rfl
noncomputable def F131 : FnI := ⟨bodyOf Tryz.f131, 19, [.tmp 4], .e⟩
theorem fn131 : FnOk Tryz.prog 131 F131 := FnOk.of Tryz.func131 rfl (by kernel_rfl) rfl rfl
theorem pl131 : codeOk planOk F131.plans F131.code = true := by kernel_rfl
noncomputable def F132 : FnI := ⟨bodyOf Tryz.f132, 8, [.tmp 3], .e⟩
theorem fn132 : FnOk Tryz.prog 132 F132 := FnOk.of Tryz.func132 rfl (by kernel_rfl) rfl rfl
theorem pl132 : codeOk planOk F132.plans F132.code = true := by kernel_rfl
noncomputable def F133 : FnI := ⟨bodyOf Tryz.f133, 99, [.tmp 2], (.n none (.n none (.n none (.n none .e .e) (.n none .e .e)) (.n none (.n none .e .e) (.n (some [.n 0, .n 1, .go 2, .x 2, .r 0, .go 3, .x 3, .n 4, .go 5, .x 5, .fin]) .e .e))) (.n none (.n none (.n none .e .e) (.n none .e .e)) (.n none (.n none .e .e) .e)))⟩
theorem fn133 : FnOk Tryz.prog 133 F133 := FnOk.of Tryz.func133 rfl (by kernel_rfl) rfl rfl
theorem pl133 : codeOk planOk F133.plans F133.code = true := by kernel_rfl
noncomputable def F134 : FnI := ⟨bodyOf Tryz.f134, 7, [.tmp 2], .e⟩
theorem fn134 : FnOk Tryz.prog 134 F134 := FnOk.of Tryz.func134 rfl (by kernel_rfl) rfl rfl
theorem pl134 : codeOk planOk F134.plans F134.code = true := by kernel_rfl
noncomputable def F135 : FnI := ⟨bodyOf Tryz.f135, 15, [.tmp 6], .e⟩
theorem fn135 : FnOk Tryz.prog 135 F135 := FnOk.of Tryz.func135 rfl (by kernel_rfl) rfl rfl
theorem pl135 : codeOk planOk F135.plans F135.code = true := by kernel_rfl
noncomputable def F136 : FnI := ⟨bodyOf Tryz.f136, 48, [.tmp 2], .e⟩
theorem fn136 : FnOk Tryz.prog 136 F136 := FnOk.of Tryz.func136 rfl (by kernel_rfl) rfl rfl
theorem pl136 : codeOk planOk F136.plans F136.code = true := by kernel_rfl
noncomputable def F137 : FnI := ⟨bodyOf Tryz.f137, 12, [.tmp 2], .e⟩
theorem fn137 : FnOk Tryz.prog 137 F137 := FnOk.of Tryz.func137 rfl (by kernel_rfl) rfl rfl
theorem pl137 : codeOk planOk F137.plans F137.code = true := by kernel_rfl
noncomputable def F138 : FnI := ⟨bodyOf Tryz.f138, 18, [.tmp 8, .tmp 9], .e⟩
theorem fn138 : FnOk Tryz.prog 138 F138 := FnOk.of Tryz.func138 rfl (by kernel_rfl) rfl rfl
theorem pl138 : codeOk planOk F138.plans F138.code = true := by kernel_rfl
noncomputable def F139 : FnI := ⟨bodyOf Tryz.f139, 31, [.tmp 2], .e⟩
theorem fn139 : FnOk Tryz.prog 139 F139 := FnOk.of Tryz.func139 rfl (by kernel_rfl) rfl rfl
theorem pl139 : codeOk planOk F139.plans F139.code = true := by kernel_rfl
noncomputable def F140 : FnI := ⟨bodyOf Tryz.f140, 27, [.tmp 4], .e⟩
theorem fn140 : FnOk Tryz.prog 140 F140 := FnOk.of Tryz.func140 rfl (by kernel_rfl) rfl rfl
theorem pl140 : codeOk planOk F140.plans F140.code = true := by kernel_rfl
noncomputable def F141 : FnI := ⟨bodyOf Tryz.f141, 58, [], .e⟩
theorem fn141 : FnOk Tryz.prog 141 F141 := FnOk.of Tryz.func141 rfl (by kernel_rfl) rfl rfl
theorem pl141 : codeOk planOk F141.plans F141.code = true := by kernel_rfl
noncomputable def F142 : FnI := ⟨bodyOf Tryz.f142, 19, [.tmp 4], .e⟩
theorem fn142 : FnOk Tryz.prog 142 F142 := FnOk.of Tryz.func142 rfl (by kernel_rfl) rfl rfl
theorem pl142 : codeOk planOk F142.plans F142.code = true := by kernel_rfl
noncomputable def F143 : FnI := ⟨bodyOf Tryz.f143, 14, [.tmp 4], (.n none (.n (some [.n 0, .n 1, .n 2, .n 3, .n 4, .n 5, .n 6, .n 7, .n 8, .go 9, .x 9, .fin]) .e .e) .e)⟩
theorem fn143 : FnOk Tryz.prog 143 F143 := FnOk.of Tryz.func143 rfl (by kernel_rfl) rfl rfl
theorem pl143 : codeOk planOk F143.plans F143.code = true := by kernel_rfl
noncomputable def F144 : FnI := ⟨bodyOf Tryz.f144, 11, [.tmp 3], .e⟩
theorem fn144 : FnOk Tryz.prog 144 F144 := FnOk.of Tryz.func144 rfl (by kernel_rfl) rfl rfl
theorem pl144 : codeOk planOk F144.plans F144.code = true := by kernel_rfl
noncomputable def F145 : FnI := ⟨bodyOf Tryz.f145, 16, [.tmp 3], .e⟩
theorem fn145 : FnOk Tryz.prog 145 F145 := FnOk.of Tryz.func145 rfl (by kernel_rfl) rfl rfl
theorem pl145 : codeOk planOk F145.plans F145.code = true := by kernel_rfl
noncomputable def F146 : FnI := ⟨bodyOf Tryz.f146, 21, [.tmp 4], (.n none (.n (some [.n 0, .n 1, .n 2, .n 3, .n 4, .n 5, .n 6, .n 7, .n 8, .n 9, .n 10, .n 11, .n 12, .n 13, .go 14, .x 14, .n 15, .go 16, .x 16, .fin]) .e .e) .e)⟩
theorem fn146 : FnOk Tryz.prog 146 F146 := FnOk.of Tryz.func146 rfl (by kernel_rfl) rfl rfl
theorem pl146 : codeOk planOk F146.plans F146.code = true := by kernel_rfl
noncomputable def F147 : FnI := ⟨bodyOf Tryz.f147, 15, [.tmp 4], .e⟩
theorem fn147 : FnOk Tryz.prog 147 F147 := FnOk.of Tryz.func147 rfl (by kernel_rfl) rfl rfl
theorem pl147 : codeOk planOk F147.plans F147.code = true := by kernel_rfl
noncomputable def F148 : FnI := ⟨bodyOf Tryz.f148, 11, [.tmp 3], .e⟩
theorem fn148 : FnOk Tryz.prog 148 F148 := FnOk.of Tryz.func148 rfl (by kernel_rfl) rfl rfl
theorem pl148 : codeOk planOk F148.plans F148.code = true := by kernel_rfl
noncomputable def F149 : FnI := ⟨bodyOf Tryz.f149, 10, [.tmp 3], .e⟩
theorem fn149 : FnOk Tryz.prog 149 F149 := FnOk.of Tryz.func149 rfl (by kernel_rfl) rfl rfl
theorem pl149 : codeOk planOk F149.plans F149.code = true := by kernel_rfl
noncomputable def F150 : FnI := ⟨bodyOf Tryz.f150, 19, [.tmp 4], .e⟩
theorem fn150 : FnOk Tryz.prog 150 F150 := FnOk.of Tryz.func150 rfl (by kernel_rfl) rfl rfl
theorem pl150 : codeOk planOk F150.plans F150.code = true := by kernel_rfl
noncomputable def F151 : FnI := ⟨bodyOf Tryz.f151, 16, [.tmp 2], .e⟩
theorem fn151 : FnOk Tryz.prog 151 F151 := FnOk.of Tryz.func151 rfl (by kernel_rfl) rfl rfl
theorem pl151 : codeOk planOk F151.plans F151.code = true := by kernel_rfl
noncomputable def F152 : FnI := ⟨bodyOf Tryz.f152, 9, [.tmp 4], .e⟩
theorem fn152 : FnOk Tryz.prog 152 F152 := FnOk.of Tryz.func152 rfl (by kernel_rfl) rfl rfl
theorem pl152 : codeOk planOk F152.plans F152.code = true := by kernel_rfl
noncomputable def F153 : FnI := ⟨bodyOf Tryz.f153, 6, [.tmp 2], .e⟩
theorem fn153 : FnOk Tryz.prog 153 F153 := FnOk.of Tryz.func153 rfl (by kernel_rfl) rfl rfl
theorem pl153 : codeOk planOk F153.plans F153.code = true := by kernel_rfl
noncomputable def F154 : FnI := ⟨bodyOf Tryz.f154, 27, [.tmp 2], .e⟩
theorem fn154 : FnOk Tryz.prog 154 F154 := FnOk.of Tryz.func154 rfl (by kernel_rfl) rfl rfl
theorem pl154 : codeOk planOk F154.plans F154.code = true := by kernel_rfl
noncomputable def F155 : FnI := ⟨bodyOf Tryz.f155, 9, [.tmp 4], .e⟩
theorem fn155 : FnOk Tryz.prog 155 F155 := FnOk.of Tryz.func155 rfl (by kernel_rfl) rfl rfl
theorem pl155 : codeOk planOk F155.plans F155.code = true := by kernel_rfl
noncomputable def F156 : FnI := ⟨bodyOf Tryz.f156, 6, [.tmp 2], .e⟩
theorem fn156 : FnOk Tryz.prog 156 F156 := FnOk.of Tryz.func156 rfl (by kernel_rfl) rfl rfl
theorem pl156 : codeOk planOk F156.plans F156.code = true := by kernel_rfl
noncomputable def F157 : FnI := ⟨bodyOf Tryz.f157, 16, [.tmp 2], .e⟩
theorem fn157 : FnOk Tryz.prog 157 F157 := FnOk.of Tryz.func157 rfl (by kernel_rfl) rfl rfl
theorem pl157 : codeOk planOk F157.plans F157.code = true := by kernel_rfl
noncomputable def F158 : FnI := ⟨bodyOf Tryz.f158, 62, [.tmp 4], .e⟩
theorem fn158 : FnOk Tryz.prog 158 F158 := FnOk.of Tryz.func158 rfl (by kernel_rfl) rfl rfl
theorem pl158 : codeOk planOk F158.plans F158.code = true := by kernel_rfl
noncomputable def F159 : FnI := ⟨bodyOf Tryz.f159, 24, [.tmp 2], .e⟩
theorem fn159 : FnOk Tryz.prog 159 F159 := FnOk.of Tryz.func159 rfl (by kernel_rfl) rfl rfl
theorem pl159 : codeOk planOk F159.plans F159.code = true := by kernel_rfl
noncomputable def F160 : FnI := ⟨bodyOf Tryz.f160, 32, [.tmp 2], .e⟩
theorem fn160 : FnOk Tryz.prog 160 F160 := FnOk.of Tryz.func160 rfl (by kernel_rfl) rfl rfl
theorem pl160 : codeOk planOk F160.plans F160.code = true := by kernel_rfl
noncomputable def F161 : FnI := ⟨bodyOf Tryz.f161, 11, [.tmp 2], .e⟩
theorem fn161 : FnOk Tryz.prog 161 F161 := FnOk.of Tryz.func161 rfl (by kernel_rfl) rfl rfl
theorem pl161 : codeOk planOk F161.plans F161.code = true := by kernel_rfl
noncomputable def F162 : FnI := ⟨bodyOf Tryz.f162, 13, [.tmp 2], .e⟩
theorem fn162 : FnOk Tryz.prog 162 F162 := FnOk.of Tryz.func162 rfl (by kernel_rfl) rfl rfl
theorem pl162 : codeOk planOk F162.plans F162.code = true := by kernel_rfl
noncomputable def F163 : FnI := ⟨bodyOf Tryz.f163, 15, [.tmp 6], .e⟩
theorem fn163 : FnOk Tryz.prog 163 F163 := FnOk.of Tryz.func163 rfl (by kernel_rfl) rfl rfl
theorem pl163 : codeOk planOk F163.plans F163.code = true := by kernel_rfl
noncomputable def F164 : FnI := ⟨bodyOf Tryz.f164, 6, [], .e⟩
theorem fn164 : FnOk Tryz.prog 164 F164 := FnOk.of Tryz.func164 rfl (by kernel_rfl) rfl rfl
theorem pl164 : codeOk planOk F164.plans F164.code = true := by kernel_rfl
noncomputable def F165 : FnI := ⟨bodyOf Tryz.f165, 53, [], (.n (some [.n 0, .n 1, .n 2, .n 3, .n 4, .n 8, .n 9, .n 10, .n 11, .n 12, .n 17, .n 18, .n 19, .n 20, .n 21, .n 22, .g 27, .go 5, .x 5, .n 6, .n 7, .r 8, .r 9, .r 10, .r 11, .r 12, .r 17, .r 18, .r 19, .r 20, .r 21, .r 22, .g 27, .go 13, .x 13, .r 6, .r 7, .n 14, .n 15, .n 16, .r 17, .r 18, .r 19, .r 20, .r 21, .r 22, .g 27, .go 23, .x 23, .n 24, .n 25, .n 26, .g 27, .go 28, .b 27, .x 28, .r 26, .go 29, .x 29, .fin]) (.n (some [.n 0, .n 1, .n 2, .n 3, .n 4, .n 8, .n 9, .go 5, .x 5, .n 6, .n 7, .r 8, .r 9, .n 10, .n 11, .go 12, .x 12, .fin]) .e .e) (.n (some [.n 0, .n 1, .n 2, .n 3, .n 4, .n 6, .n 7, .go 5, .x 5, .r 6, .r 7, .n 8, .go 9, .x 9, .fin]) .e .e))⟩
theorem fn165 : FnOk Tryz.prog 165 F165 := FnOk.of Tryz.func165 rfl (by kernel_rfl) rfl rfl
theorem pl165 : codeOk planOk F165.plans F165.code = true := by kernel_rfl
noncomputable def F166 : FnI := ⟨bodyOf Tryz.f166, 53, [.tmp 10, .tmp 11], .e⟩
theorem fn166 : FnOk Tryz.prog 166 F166 := FnOk.of Tryz.func166 rfl (by kernel_rfl) rfl rfl
theorem pl166 : codeOk planOk F166.plans F166.code = true := by kernel_rfl
noncomputable def F167 : FnI := ⟨bodyOf Tryz.f167, 9, [.tmp 4], .e⟩
theorem fn167 : FnOk Tryz.prog 167 F167 := FnOk.of Tryz.func167 rfl (by kernel_rfl) rfl rfl
theorem pl167 : codeOk planOk F167.plans F167.code = true := by kernel_rfl
noncomputable def F168 : FnI := ⟨bodyOf Tryz.f168, 6, [.tmp 2], .e⟩
theorem fn168 : FnOk Tryz.prog 168 F168 := FnOk.of Tryz.func168 rfl (by kernel_rfl) rfl rfl
theorem pl168 : codeOk planOk F168.plans F168.code = true := by kernel_rfl
noncomputable def F169 : FnI := ⟨bodyOf Tryz.f169, 11, [.tmp 2], .e⟩
theorem fn169 : FnOk Tryz.prog 169 F169 := FnOk.of Tryz.func169 rfl (by kernel_rfl) rfl rfl
theorem pl169 : codeOk planOk F169.plans F169.code = true := by kernel_rfl
noncomputable def F170 : FnI := ⟨bodyOf Tryz.f170, 38, [], (.n none (.n none (.n (some [.n 0, .n 1, .n 2, .n 3, .n 4, .n 5, .n 6, .n 7, .n 8, .n 9, .n 10, .n 11, .n 12, .n 13, .n 14, .n 15, .n 16, .n 17, .n 18, .n 19, .n 20, .go 21, .x 21, .r 4, .r 5, .r 6, .r 7, .n 22, .go 23, .x 23, .fin]) .e .e) .e) (.n none .e .e))⟩
theorem fn170 : FnOk Tryz.prog 170 F170 := FnOk.of Tryz.func170 rfl (by kernel_rfl) rfl rfl
theorem pl170 : codeOk planOk F170.plans F170.code = true := by kernel_rfl
noncomputable def F171 : FnI := ⟨bodyOf Tryz.f171, 17, [.tmp 2], .e⟩
theorem fn171 : FnOk Tryz.prog 171 F171 := FnOk.of Tryz.func171 rfl (by kernel_rfl) rfl rfl
theorem pl171 : codeOk planOk F171.plans F171.code = true := by kernel_rfl
noncomputable def F172 : FnI := ⟨bodyOf Tryz.f172, 19, [.tmp 4], .e⟩
theorem fn172 : FnOk Tryz.prog 172 F172 := FnOk.of Tryz.func172 rfl (by kernel_rfl) rfl rfl
theorem pl172 : codeOk planOk F172.plans F172.code = true := by kernel_rfl
noncomputable def F173 : FnI := ⟨bodyOf Tryz.f173, 19, [.tmp 4], .e⟩
theorem fn173 : FnOk Tryz.prog 173 F173 := FnOk.of Tryz.func173 rfl (by kernel_rfl) rfl rfl
theorem pl173 : codeOk planOk F173.plans F173.code = true := by kernel_rfl
noncomputable def F174 : FnI := ⟨bodyOf Tryz.f174, 31, [.tmp 4, .tmp 5], (.n none (.n none (.n (some [.n 0, .n 1, .n 2, .n 3, .n 5, .n 6, .n 7, .n 8, .n 9, .n 10, .n 11, .n 12, .n 13, .n 14, .n 15, .go 4, .x 4, .r 5, .r 6, .r 7, .r 8, .r 9, .r 10, .r 11, .r 12, .r 13, .r 14, .r 15, .go 16, .x 16, .go 17, .x 17, .go 18, .x 18, .fin]) .e .e) .e) (.n none .e .e))⟩
theorem fn174 : FnOk Tryz.prog 174 F174 := FnOk.of Tryz.func174 rfl (by kernel_rfl) rfl rfl
theorem pl174 : codeOk planOk F174.plans F174.code = true := by kernel_rfl
noncomputable def F175 : FnI := ⟨bodyOf Tryz.f175, 43, [.cell 2 274], .e⟩
theorem fn175 : FnOk Tryz.prog 175 F175 := FnOk.of Tryz.func175 rfl (by kernel_rfl) rfl rfl
theorem pl175 : codeOk planOk F175.plans F175.code = true := by kernel_rfl
noncomputable def F176 : FnI := ⟨bodyOf Tryz.f176, 6, [.tmp 2], .e⟩
theorem fn176 : FnOk Tryz.prog 176 F176 := FnOk.of Tryz.func176 rfl (by kernel_rfl) rfl rfl
theorem pl176 : codeOk planOk F176.plans F176.code = true := by kernel_rfl
noncomputable def F177 : FnI := ⟨bodyOf Tryz.f177, 6, [.tmp 2], .e⟩
theorem fn177 : FnOk Tryz.prog 177 F177 := FnOk.of Tryz.func177 rfl (by kernel_rfl) rfl rfl
theorem pl177 : codeOk planOk F177.plans F177.code = true := by kernel_rfl
noncomputable def F178 : FnI := ⟨bodyOf Tryz.f178, 16, [.tmp 4], .e⟩
theorem fn178 : FnOk Tryz.prog 178 F178 := FnOk.of Tryz.func178 rfl (by kernel_rfl) rfl rfl
theorem pl178 : codeOk planOk F178.plans F178.code = true := by kernel_rfl
noncomputable def F179 : FnI := ⟨bodyOf Tryz.f179, 22, [.tmp 5], .e⟩
theorem fn179 : FnOk Tryz.prog 179 F179 := FnOk.of Tryz.func179 rfl (by kernel_rfl) rfl rfl
theorem pl179 : codeOk planOk F179.plans F179.code = true := by kernel_rfl
noncomputable def F180 : FnI := ⟨bodyOf Tryz.f180, 23, [.tmp 8, .tmp 9], .e⟩
theorem fn180 : FnOk Tryz.prog 180 F180 := FnOk.of Tryz.func180 rfl (by kernel_rfl) rfl rfl
theorem pl180 : codeOk planOk F180.plans F180.code = true := by kernel_rfl
noncomputable def F181 : FnI := ⟨bodyOf Tryz.f181, 36, [.tmp 2], .e⟩
theorem fn181 : FnOk Tryz.prog 181 F181 := FnOk.of Tryz.func181 rfl (by kernel_rfl) rfl rfl
theorem pl181 : codeOk planOk F181.plans F181.code = true := by kernel_rfl
noncomputable def F182 : FnI := ⟨bodyOf Tryz.f182, 19, [.tmp 4], .e⟩
theorem fn182 : FnOk Tryz.prog 182 F182 := FnOk.of Tryz.func182 rfl (by kernel_rfl) rfl rfl
theorem pl182 : codeOk planOk F182.plans F182.code = true := by kernel_rfl
noncomputable def F183 : FnI := ⟨bodyOf Tryz.f183, 18, [.tmp 2], .e⟩
theorem fn183 : FnOk Tryz.prog 183 F183 := FnOk.of Tryz.func183 rfl (by kernel_rfl) rfl rfl
theorem pl183 : codeOk planOk F183.plans F183.code = true := by kernel_rfl
noncomputable def F184 : FnI := ⟨bodyOf Tryz.f184, 24, [.tmp 4], (.n none (.n (some [.n 0, .n 1, .n 2, .n 3, .n 4, .n 5, .n 6, .n 7, .n 8, .n 9, .go 10, .x 10, .r 5, .r 6, .r 7, .r 8, .r 9, .go 11, .x 11, .fin]) .e .e) .e)⟩
theorem fn184 : FnOk Tryz.prog 184 F184 := FnOk.of Tryz.func184 rfl (by kernel_rfl) rfl rfl
theorem pl184 : codeOk planOk F184.plans F184.code = true := by kernel_rfl
noncomputable def F185 : FnI := ⟨bodyOf Tryz.f185, 13, [.cell 4 284], .e⟩
theorem fn185 : FnOk Tryz.prog 185 F185 := FnOk.of Tryz.func185 rfl (by kernel_rfl) rfl rfl
theorem pl185 : codeOk planOk F185.plans F185.code = true := by kernel_rfl
noncomputable def F186 : FnI := ⟨bodyOf Tryz.f186, 5, [.tmp 2], .e⟩
theorem fn186 : FnOk Tryz.prog 186 F186 := FnOk.of Tryz.func186 rfl (by kernel_rfl) rfl rfl
theorem pl186 : codeOk planOk F186.plans F186.code = true := by kernel_rfl
noncomputable def F187 : FnI := ⟨bodyOf Tryz.f187, 9, [.tmp 4], .e⟩
theorem fn187 : FnOk Tryz.prog 187 F187 := FnOk.of Tryz.func187 rfl (by kernel_rfl) rfl rfl
theorem pl187 : codeOk planOk F187.plans F187.code = true := by kernel_rfl
noncomputable def F188 : FnI := ⟨bodyOf Tryz.f188, 13, [.tmp 2], .e⟩
theorem fn188 : FnOk Tryz.prog 188 F188 := FnOk.of Tryz.func188 rfl (by kernel_rfl) rfl rfl
theorem pl188 : codeOk planOk F188.plans F188.code = true := by kernel_rfl
noncomputable def F189 : FnI := ⟨bodyOf Tryz.f189, 73, [.tmp 8], (.n none (.n none (.n none .e .e) .e) (.n none (.n (some [.n 0, .n 1, .n 3, .n 4, .n 7, .n 8, .n 9, .go 2, .x 2, .r 3, .r 4, .r 7, .r 8, .r 9, .go 5, .x 5, .n 6, .r 7, .r 8, .r 9, .go 10, .x 10, .go 11, .x 11, .fin]) .e .e) .e))⟩
theorem fn189 : FnOk Tryz.prog 189 F189 := FnOk.of Tryz.func189 rfl (by kernel_rfl) rfl rfl
theorem pl189 : codeOk planOk F189.plans F189.code = true := by kernel_rfl
noncomputable def F190 : FnI := ⟨bodyOf Tryz.f190, 27, [.tmp 4], .e⟩
theorem fn190 : FnOk Tryz.prog 190 F190 := FnOk.of Tryz.func190 rfl (by kernel_rfl) rfl rfl
theorem pl190 : codeOk planOk F190.plans F190.code = true := by kernel_rfl
noncomputable def F191 : FnI := ⟨bodyOf Tryz.f191, 19, [.tmp 4], .e⟩
theorem fn191 : FnOk Tryz.prog 191 F191 := FnOk.of Tryz.func191 rfl (by kernel_rfl) rfl rfl
theorem pl191 : codeOk planOk F191.plans F191.code = true := by kernel_rfl
noncomputable def F192 : FnI := ⟨bodyOf Tryz.f192, 30, [.tmp 6], .e⟩
theorem fn192 : FnOk Tryz.prog 192 F192 := FnOk.of Tryz.func192 rfl (by kernel_rfl) rfl rfl
theorem pl192 : codeOk planOk F192.plans F192.code = true := by kernel_rfl
noncomputable def F193 : FnI := ⟨bodyOf Tryz.f193, 18, [.cell 4 294], .e⟩
theorem fn193 : FnOk Tryz.prog 193 F193 := FnOk.of Tryz.func193 rfl (by kernel_rfl) rfl rfl
theorem pl193 : codeOk planOk F193.plans F193.code = true := by kernel_rfl
noncomputable def F194 : FnI := ⟨bodyOf Tryz.f194, 20, [.tmp 4], (.n none (.n none (.n (some [.n 0, .n 1, .n 2, .n 3, .n 5, .n 6, .n 7, .n 8, .go 4, .x 4, .r 5, .r 6, .r 7, .r 8, .go 9, .x 9, .go 10, .x 10, .go 11, .x 11, .go 12, .x 12, .fin]) .e .e) .e) (.n none .e .e))⟩
theorem fn194 : FnOk Tryz.prog 194 F194 := FnOk.of Tryz.func194 rfl (by kernel_rfl) rfl rfl
theorem pl194 : codeOk planOk F194.plans F194.code = true := by kernel_rfl
noncomputable def F195 : FnI := ⟨bodyOf Tryz.f195, 51, [.tmp 4, .tmp 5], .e⟩
theorem fn195 : FnOk Tryz.prog 195 F195 := FnOk.of Tryz.func195 rfl (by kernel_rfl) rfl rfl
theorem pl195 : codeOk planOk F195.plans F195.code = true := by kernel_rfl
noncomputable def F196 : FnI := ⟨bodyOf Tryz.f196, 20, [.tmp 4], .e⟩
theorem fn196 : FnOk Tryz.prog 196 F196 := FnOk.of Tryz.func196 rfl (by kernel_rfl) rfl rfl
theorem pl196 : codeOk planOk F196.plans F196.code = true := by kernel_rfl
noncomputable def F197 : FnI := ⟨bodyOf Tryz.f197, 6, [.tmp 2], .e⟩
theorem fn197 : FnOk Tryz.prog 197 F197 := FnOk.of Tryz.func197 rfl (by kernel_rfl) rfl rfl
theorem pl197 : codeOk planOk F197.plans F197.code = true := by kernel_rfl
noncomputable def CT : Tr TyI := (.n (some T0) (.n (some T1) (.n (some T3) (.n (some T7) (.n (some T15) (.n (some T31) (.n (some T63) (.n (some T127) (.n (some T255) .e .e) .e) (.n (some T191) .e .e)) (.n (some T95) (.n (some T159) (.n (some T287) .e .e) .e) (.n (some T223) .e .e))) (.n (some T47) (.n (some T79) (.n (some T143) (.n (some T271) .e .e) .e) (.n (some T207) .e .e)) (.n (some T111) (.n (some T175) (.n (some T303) .e .e) .e) (.n (some T239) .e .e)))) (.n (some T23) (.n (some T39) (.n (some T71) (.n (some T135) (.n (some T263) .e .e) .e) (.n (some T199) .e .e)) (.n (some T103) (.n (some T167) (.n (some T295) .e .e) .e) (.n (some T231) .e .e))) (.n (some T55) (.n (some T87) (.n (some T151) (.n (some T279) .e .e) .e) (.n (some T215) .e .e)) (.n (some T119) (.n (some T183) (.n (some T311) .e .e) .e) (.n (some T247) .e .e))))) (.n (some T11) (.n (some T19) (.n (some T35) (.n (some T67) (.n (some T131) (.n (some T259) .e .e) .e) (.n (some T195) .e .e)) (.n (some T99) (.n (some T163) (.n (some T291) .e .e) .e) (.n (some T227) .e .e))) (.n (some T51) (.n (some T83) (.n (some T147) (.n (some T275) .e .e) .e) (.n (some T211) .e .e)) (.n (some T115) (.n (some T179) (.n (some T307) .e .e) .e) (.n (some T243) .e .e)))) (.n (some T27) (.n (some T43) (.n (some T75) (.n (some T139) (.n (some T267) .e .e) .e) (.n (some T203) .e .e)) (.n (some T107) (.n (some T171) (.n (some T299) .e .e) .e) (.n (some T235) .e .e))) (.n (some T59) (.n (some T91) (.n (some T155) (.n (some T283) .e .e) .e) (.n (some T219) .e .e)) (.n (some T123) (.n (some T187) (.n (some T315) .e .e) .e) (.n (some T251) .e .e)))))) (.n (some T5) (.n (some T9) (.n (some T17) (.n (some T33) (.n (some T65) (.n (some T129) (.n (some T257) .e .e) .e) (.n (some T193) .e .e)) (.n (some T97) (.n (some T161) (.n (some T289) .e .e) .e) (.n (some T225) .e .e))) (.n (some T49) (.n (some T81) (.n (some T145) (.n (some T273) .e .e) .e) (.n (some T209) .e .e)) (.n (some T113) (.n (some T177) (.n (some T305) .e .e) .e) (.n (some T241) .e .e)))) (.n (some T25) (.n (some T41) (.n (some T73) (.n (some T137) (.n (some T265) .e .e) .e) (.n (some T201) .e .e)) (.n (some T105) (.n (some T169) (.n (some T297) .e .e) .e) (.n (some T233) .e .e))) (.n (some T57) (.n (some T89) (.n (some T153) (.n (some T281) .e .e) .e) (.n (some T217) .e .e)) (.n (some T121) (.n (some T185) (.n (some T313) .e .e) .e) (.n (some T249) .e .e))))) (.n (some T13) (.n (some T21) (.n (some T37) (.n (some T69) (.n (some T133) (.n (some T261) .e .e) .e) (.n (some T197) .e .e)) (.n (some T101) (.n (some T165) (.n (some T293) .e .e) .e) (.n (some T229) .e .e))) (.n (some T53) (.n (some T85) (.n (some T149) (.n (some T277) .e .e) .e) (.n (some T213) .e .e)) (.n (some T117) (.n (some T181) (.n (some T309) .e .e) .e) (.n (some T245) .e .e)))) (.n (some T29) (.n (some T45) (.n (some T77) (.n (some T141) (.n (some T269) .e .e) .e) (.n (some T205) .e .e)) (.n (some T109) (.n (some T173) (.n (some T301) .e .e) .e) (.n (some T237) .e .e))) (.n (some T61) (.n (some T93) (.n (some T157) (.n (some T285) .e .e) .e) (.n (some T221) .e .e)) (.n (some T125) (.n (some T189) .e .e) (.n (some T253) .e .e))))))) (.n (some T2) (.n (some T4) (.n (some T8) (.n (some T16) (.n (some T32) (.n (some T64) (.n (some T128) (.n (some T256) .e .e) .e) (.n (some T192) .e .e)) (.n (some T96) (.n (some T160) (.n (some T288) .e .e) .e) (.n (some T224) .e .e))) (.n (some T48) (.n (some T80) (.n (some T144) (.n (some T272) .e .e) .e) (.n (some T208) .e .e)) (.n (some T112) (.n (some T176) (.n (some T304) .e .e) .e) (.n (some T240) .e .e)))) (.n (some T24) (.n (some T40) (.n (some T72) (.n (some T136) (.n (some T264) .e .e) .e) (.n (some T200) .e .e)) (.n (some T104) (.n (some T168) (.n (some T296) .e .e) .e) (.n (some T232) .e .e))) (.n (some T56) (.n (some T88) (.n (some T152) (.n (some T280) .e .e) .e) (.n (some T216) .e .e)) (.n (some T120) (.n (some T184) (.n (some T312) .e .e) .e) (.n (some T248) .e .e))))) (.n (some T12) (.n (some T20) (.n (some T36) (.n (some T68) (.n (some T132) (.n (some T260) .e .e) .e) (.n (some T196) .e .e)) (.n (some T100) (.n (some T164) (.n (some T292) .e .e) .e) (.n (some T228) .e .e))) (.n (some T52) (.n (some T84) (.n (some T148) (.n (some T276) .e .e) .e) (.n (some T212) .e .e)) (.n (some T116) (.n (some T180) (.n (some T308) .e .e) .e) (.n (some T244) .e .e)))) (.n (some T28) (.n (some T44) (.n (some T76) (.n (some T140) (.n (some T268) .e .e) .e) (.n (some T204) .e .e)) (.n (some T108) (.n (some T172) (.n (some T300) .e .e) .e) (.n (some T236) .e .e))) (.n (some T60) (.n (some T92) (.n (some T156) (.n (some T284) .e .e) .e) (.n (some T220) .e .e)) (.n (some T124) (.n (some T188) (.n (some T316) .e .e) .e) (.n (some T252) .e .e)))))) (.n (some T6) (.n (some T10) (.n (some T18) (.n (some T34) (.n (some T66) (.n (some T130) (.n (some T258) .e .e) .e) (.n (some T194) .e .e)) (.n (some T98) (.n (some T162) (.n (some T290) .e .e) .e) (.n (some T226) .e .e))) (.n (some T50) (.n (some T82) (.n (some T146) (.n (some T274) .e .e) .e) (.n (some T210) .e .e)) (.n (some T114) (.n (some T178) (.n (some T306) .e .e) .e) (.n (some T242) .e .e)))) (.n (some T26) (.n (some T42) (.n (some T74) (.n (some T138) (.n (some T266) .e .e) .e) (.n (some T202) .e .e)) (.n (some T106) (.n (some T170) (.n (some T298) .e .e) .e) (.n (some T234) .e .e))) (.n (some T58) (.n (some T90) (.n (some T154) (.n (some T282) .e .e) .e) (.n (some T218) .e .e)) (.n (some T122) (.n (some T186) (.n (some T314) .e .e) .e) (.n (some T250) .e .e))))) (.n (some T14) (.n (some T22) (.n (some T38) (.n (some T70) (.n (some T134) (.n (some T262) .e .e) .e) (.n (some T198) .e .e)) (.n (some T102) (.n (some T166) (.n (some T294) .e .e) .e) (.n (some T230) .e .e))) (.n (some T54) (.n (some T86) (.n (some T150) (.n (some T278) .e .e) .e) (.n (some T214) .e .e)) (.n (some T118) (.n (some T182) (.n (some T310) .e .e) .e) (.n (some T246) .e .e)))) (.n (some T30) (.n (some T46) (.n (some T78) (.n (some T142) (.n (some T270) .e .e) .e) (.n (some T206) .e .e)) (.n (some T110) (.n (some T174) (.n (some T302) .e .e) .e) (.n (some T238) .e .e))) (.n (some T62) (.n (some T94) (.n (some T158) (.n (some T286) .e .e) .e) (.n (some T222) .e .e)) (.n (some T126) (.n (some T190) .e .e) (.n (some T254) .e .e))))))))
noncomputable def CF : Tr FnI := (.n none (.n none (.n (some F3) (.n (some F7) (.n (some F15) (.n (some F31) (.n (some F63) (.n (some F127) .e .e) (.n (some F191) .e .e)) (.n (some F95) (.n (some F159) .e .e) .e)) (.n (some F47) (.n (some F79) (.n (some F143) .e .e) (.n none .e .e)) (.n (some F111) (.n (some F175) .e .e) .e))) (.n (some F23) (.n (some F39) (.n (some F71) (.n (some F135) .e .e) (.n none .e .e)) (.n (some F103) (.n (some F167) .e .e) .e)) (.n (some F55) (.n (some F87) (.n (some F151) .e .e) .e) (.n (some F119) (.n (some F183) .e .e) .e)))) (.n (some F11) (.n (some F19) (.n (some F35) (.n (some F67) (.n (some F131) .e .e) (.n (some F195) .e .e)) (.n (some F99) (.n (some F163) .e .e) .e)) (.n (some F51) (.n (some F83) (.n (some F147) .e .e) (.n none .e .e)) (.n (some F115) (.n (some F179) .e .e) .e))) (.n (some F27) (.n (some F43) (.n (some F75) (.n (some F139) .e .e) (.n none .e .e)) (.n (some F107) (.n (some F171) .e .e) .e)) (.n (some F59) (.n (some F91) (.n (some F155) .e .e) .e) (.n (some F123) (.n (some F187) .e .e) .e))))) (.n (some F5) (.n (some F9) (.n (some F17) (.n (some F33) (.n (some F65) (.n (some F129) .e .e) (.n (some F193) .e .e)) (.n (some F97) (.n (some F161) .e .e) .e)) (.n (some F49) (.n (some F81) (.n (some F145) .e .e) (.n none .e .e)) (.n (some F113) (.n (some F177) .e .e) .e))) (.n (some F25) (.n (some F41) (.n (some F73) (.n (some F137) .e .e) (.n none .e .e)) (.n (some F105) (.n (some F169) .e .e) .e)) (.n (some F57) (.n (some F89) (.n (some F153) .e .e) .e) (.n (some F121) (.n (some F185) .e .e) .e)))) (.n (some F13) (.n (some F21) (.n (some F37) (.n (some F69) (.n (some F133) .e .e) (.n (some F197) .e .e)) (.n (some F101) (.n (some F165) .e .e) .e)) (.n (some F53) (.n (some F85) (.n (some F149) .e .e) (.n none .e .e)) (.n (some F117) (.n (some F181) .e .e) .e))) (.n (some F29) (.n (some F45) (.n (some F77) (.n (some F141) .e .e) (.n none .e .e)) (.n (some F109) (.n (some F173) .e .e) .e)) (.n (some F61) (.n (some F93) (.n (some F157) .e .e) .e) (.n (some F125) (.n (some F189) .e .e) .e)))))) (.n (some F2) (.n (some F4) (.n (some F8) (.n (some F16) (.n (some F32) (.n (some F64) (.n (some F128) .e .e) (.n (some F192) .e .e)) (.n (some F96) (.n (some F160) .e .e) .e)) (.n (some F48) (.n (some F80) (.n (some F144) .e .e) (.n none .e .e)) (.n (some F112) (.n (some F176) .e .e) .e))) (.n (some F24) (.n (some F40) (.n (some F72) (.n (some F136) .e .e) (.n none .e .e)) (.n (some F104) (.n (some F168) .e .e) .e)) (.n (some F56) (.n (some F88) (.n (some F152) .e .e) .e) (.n (some F120) (.n (some F184) .e .e) .e)))) (.n (some F12) (.n (some F20) (.n (some F36) (.n (some F68) (.n (some F132) .e .e) (.n (some F196) .e .e)) (.n (some F100) (.n (some F164) .e .e) .e)) (.n (some F52) (.n (some F84) (.n (some F148) .e .e) (.n none .e .e)) (.n (some F116) (.n (some F180) .e .e) .e))) (.n (some F28) (.n (some F44) (.n (some F76) (.n (some F140) .e .e) (.n none .e .e)) (.n (some F108) (.n (some F172) .e .e) .e)) (.n (some F60) (.n (some F92) (.n (some F156) .e .e) .e) (.n (some F124) (.n (some F188) .e .e) .e))))) (.n (some F6) (.n (some F10) (.n (some F18) (.n (some F34) (.n (some F66) (.n (some F130) .e .e) (.n (some F194) .e .e)) (.n (some F98) (.n (some F162) .e .e) .e)) (.n (some F50) (.n (some F82) (.n (some F146) .e .e) (.n none .e .e)) (.n (some F114) (.n (some F178) .e .e) .e))) (.n (some F26) (.n (some F42) (.n (some F74) (.n (some F138) .e .e) (.n none .e .e)) (.n (some F106) (.n (some F170) .e .e) .e)) (.n (some F58) (.n (some F90) (.n (some F154) .e .e) .e) (.n (some F122) (.n (some F186) .e .e) .e)))) (.n (some F14) (.n (some F22) (.n (some F38) (.n (some F70) (.n (some F134) .e .e) (.n none .e .e)) (.n (some F102) (.n (some F166) .e .e) .e)) (.n (some F54) (.n (some F86) (.n (some F150) .e .e) .e) (.n (some F118) (.n (some F182) .e .e) .e))) (.n (some F30) (.n (some F46) (.n (some F78) (.n (some F142) .e .e) (.n none .e .e)) (.n (some F110) (.n (some F174) .e .e) .e)) (.n (some F62) (.n (some F94) (.n (some F158) .e .e) .e) (.n (some F126) (.n (some F190) .e .e) .e)))))))
noncomputable def C : Ctx := ⟨CT, CF, .e⟩
theorem okT : CT.All (TyOk Tryz.prog) := (.intro ty0 (.intro (.intro ty1 (.intro (.intro ty3 (.intro (.intro ty7 (.intro (.intro ty15 (.intro (.intro ty31 (.intro (.intro ty63 (.intro (.intro ty127 (.intro (.intro ty255 (.intro trivial trivial)) trivial)) (.intro ty191 (.intro trivial trivial)))) (.intro ty95 (.intro (.intro ty159 (.intro (.intro ty287 (.intro trivial trivial)) trivial)) (.intro ty223 (.intro trivial trivial)))))) (.intro ty47 (.intro (.intro ty79 (.intro (.intro ty143 (.intro (.intro ty271 (.intro trivial trivial)) trivial)) (.intro ty207 (.intro trivial trivial)))) (.intro ty111 (.intro (.intro ty175 (.intro (.intro ty303 (.intro trivial trivial)) trivial)) (.intro ty239 (.intro trivial trivial)))))))) (.intro ty23 (.intro (.intro ty39 (.intro (.intro ty71 (.intro (.intro ty135 (.intro (.intro ty263 (.intro trivial trivial)) trivial)) (.intro ty199 (.intro trivial trivial)))) (.intro ty103 (.intro (.intro ty167 (.intro (.intro ty295 (.intro trivial trivial)) trivial)) (.intro ty231 (.intro trivial trivial)))))) (.intro ty55 (.intro (.intro ty87 (.intro (.intro ty151 (.intro (.intro ty279 (.intro trivial trivial)) trivial)) (.intro ty215 (.intro trivial trivial)))) (.intro ty119 (.intro (.intro ty183 (.intro (.intro ty311 (.intro trivial trivial)) trivial)) (.intro ty247 (.intro trivial trivial)))))))))) (.intro ty11 (.intro (.intro ty19 (.intro (.intro ty35 (.intro (.intro ty67 (.intro (.intro ty131 (.intro (.intro ty259 (.intro trivial trivial)) trivial)) (.intro ty195 (.intro trivial trivial)))) (.intro ty99 (.intro (.intro ty163 (.intro (.intro ty291 (.intro trivial trivial)) trivial)) (.intro ty227 (.intro trivial trivial)))))) (.intro ty51 (.intro (.intro ty83 (.intro (.intro ty147 (.intro (.intro ty275 (.intro trivial trivial)) trivial)) (.intro ty211 (.intro trivial trivial)))) (.intro ty115 (.intro (.intro ty179 (.intro (.intro ty307 (.intro trivial trivial)) trivial)) (.intro ty243 (.intro trivial trivial)))))))) (.intro ty27 (.intro (.intro ty43 (.intro (.intro ty75 (.intro (.intro ty139 (.intro (.intro ty267 (.intro trivial trivial)) trivial)) (.intro ty203 (.intro trivial trivial)))) (.intro ty107 (.intro (.intro ty171 (.intro (.intro ty299 (.intro trivial trivial)) trivial)) (.intro ty235 (.intro trivial trivial)))))) (.intro ty59 (.intro (.intro ty91 (.intro (.intro ty155 (.intro (.intro ty283 (.intro trivial trivial)) trivial)) (.intro ty219 (.intro trivial trivial)))) (.intro ty123 (.intro (.intro ty187 (.intro (.intro ty315 (.intro trivial trivial)) trivial)) (.intro ty251 (.intro trivial trivial)))))))))))) (.intro ty5 (.intro (.intro ty9 (.intro (.intro ty17 (.intro (.intro ty33 (.intro (.intro ty65 (.intro (.intro ty129 (.intro (.intro ty257 (.intro trivial trivial)) trivial)) (.intro ty193 (.intro trivial trivial)))) (.intro ty97 (.intro (.intro ty161 (.intro (.intro ty289 (.intro trivial trivial)) trivial)) (.intro ty225 (.intro trivial trivial)))))) (.intro ty49 (.intro (.intro ty81 (.intro (.intro ty145 (.intro (.intro ty273 (.intro trivial trivial)) trivial)) (.intro ty209 (.intro trivial trivial)))) (.intro ty113 (.intro (.intro ty177 (.intro (.intro ty305 (.intro trivial trivial)) trivial)) (.intro ty241 (.intro trivial trivial)))))))) (.intro ty25 (.intro (.intro ty41 (.intro (.intro ty73 (.intro (.intro ty137 (.intro (.intro ty265 (.intro trivial trivial)) trivial)) (.intro ty201 (.intro trivial trivial)))) (.intro ty105 (.intro (.intro ty169 (.intro (.intro ty297 (.intro trivial trivial)) trivial)) (.intro ty233 (.intro trivial trivial)))))) (.intro ty57 (.intro (.intro ty89 (.intro (.intro ty153 (.intro (.intro ty281 (.intro trivial trivial)) trivial)) (.intro ty217 (.intro trivial trivial)))) (.intro ty121 (.intro (.intro ty185 (.intro (.intro ty313 (.intro trivial trivial)) trivial)) (.intro ty249 (.intro trivial trivial)))))))))) (.intro ty13 (.intro (.intro ty21 (.intro (.intro ty37 (.intro (.intro ty69 (.intro (.intro ty133 (.intro (.intro ty261 (.intro trivial trivial)) trivial)) (.intro ty197 (.intro trivial trivial)))) (.intro ty101 (.intro (.intro ty165 (.intro (.intro ty293 (.intro trivial trivial)) trivial)) (.intro ty229 (.intro trivial trivial)))))) (.intro ty53 (.intro (.intro ty85 (.intro (.intro ty149 (.intro (.intro ty277 (.intro trivial trivial)) trivial)) (.intro ty213 (.intro trivial trivial)))) (.intro ty117 (.intro (.intro ty181 (.intro (.intro ty309 (.intro trivial trivial)) trivial)) (.intro ty245 (.intro trivial trivial)))))))) (.intro ty29 (.intro (.intro ty45 (.intro (.intro ty77 (.intro (.intro ty141 (.intro (.intro ty269 (.intro trivial trivial)) trivial)) (.intro ty205 (.intro trivial trivial)))) (.intro ty109 (.intro (.intro ty173 (.intro (.intro ty301 (.intro trivial trivial)) trivial)) (.intro ty237 (.intro trivial trivial)))))) (.intro ty61 (.intro (.intro ty93 (.intro (.intro ty157 (.intro (.intro ty285 (.intro trivial trivial)) trivial)) (.intro ty221 (.intro trivial trivial)))) (.intro ty125 (.intro (.intro ty189 (.intro trivial trivial)) (.intro ty253 (.intro trivial trivial)))))))))))))) (.intro ty2 (.intro (.intro ty4 (.intro (.intro ty8 (.intro (.intro ty16 (.intro (.intro ty32 (.intro (.intro ty64 (.intro (.intro ty128 (.intro (.intro ty256 (.intro trivial trivial)) trivial)) (.intro ty192 (.intro trivial trivial)))) (.intro ty96 (.intro (.intro ty160 (.intro (.intro ty288 (.intro trivial trivial)) trivial)) (.intro ty224 (.intro trivial trivial)))))) (.intro ty48 (.intro (.intro ty80 (.intro (.intro ty144 (.intro (.intro ty272 (.intro trivial trivial)) trivial)) (.intro ty208 (.intro trivial trivial)))) (.intro ty112 (.intro (.intro ty176 (.intro (.intro ty304 (.intro trivial trivial)) trivial)) (.intro ty240 (.intro trivial trivial)))))))) (.intro ty24 (.intro (.intro ty40 (.intro (.intro ty72 (.intro (.intro ty136 (.intro (.intro ty264 (.intro trivial trivial)) trivial)) (.intro ty200 (.intro trivial trivial)))) (.intro ty104 (.intro (.intro ty168 (.intro (.intro ty296 (.intro trivial trivial)) trivial)) (.intro ty232 (.intro trivial trivial)))))) (.intro ty56 (.intro (.intro ty88 (.intro (.intro ty152 (.intro (.intro ty280 (.intro trivial trivial)) trivial)) (.intro ty216 (.intro trivial trivial)))) (.intro ty120 (.intro (.intro ty184 (.intro (.intro ty312 (.intro trivial trivial)) trivial)) (.intro ty248 (.intro trivial trivial)))))))))) (.intro ty12 (.intro (.intro ty20 (.intro (.intro ty36 (.intro (.intro ty68 (.intro (.intro ty132 (.intro (.intro ty260 (.intro trivial trivial)) trivial)) (.intro ty196 (.intro trivial trivial)))) (.intro ty100 (.intro (.intro ty164 (.intro (.intro ty292 (.intro trivial trivial)) trivial)) (.intro ty228 (.intro trivial trivial)))))) (.intro ty52 (.intro (.intro ty84 (.intro (.intro ty148 (.intro (.intro ty276 (.intro trivial trivial)) trivial)) (.intro ty212 (.intro trivial trivial)))) (.intro ty116 (.intro (.intro ty180 (.intro (.intro ty308 (.intro trivial trivial)) trivial)) (.intro ty244 (.intro trivial trivial)))))))) (.intro ty28 (.intro (.intro ty44 (.intro (.intro ty76 (.intro (.intro ty140 (.intro (.intro ty268 (.intro trivial trivial)) trivial)) (.intro ty204 (.intro trivial trivial)))) (.intro ty108 (.intro (.intro ty172 (.intro (.intro ty300 (.intro trivial trivial)) trivial)) (.intro ty236 (.intro trivial trivial)))))) (.intro ty60 (.intro (.intro ty92 (.intro (.intro ty156 (.intro (.intro ty284 (.intro trivial trivial)) trivial)) (.intro ty220 (.intro trivial trivial)))) (.intro ty124 (.intro (.intro ty188 (.intro (.intro ty316 (.intro trivial trivial)) trivial)) (.intro ty252 (.intro trivial trivial)))))))))))) (.intro ty6 (.intro (.intro ty10 (.intro (.intro ty18 (.intro (.intro ty34 (.intro (.intro ty66 (.intro (.intro ty130 (.intro (.intro ty258 (.intro trivial trivial)) trivial)) (.intro ty194 (.intro trivial trivial)))) (.intro ty98 (.intro (.intro ty162 (.intro (.intro ty290 (.intro trivial trivial)) trivial)) (.intro ty226 (.intro trivial trivial)))))) (.intro ty50 (.intro (.intro ty82 (.intro (.intro ty146 (.intro (.intro ty274 (.intro trivial trivial)) trivial)) (.intro ty210 (.intro trivial trivial)))) (.intro ty114 (.intro (.intro ty178 (.intro (.intro ty306 (.intro trivial trivial)) trivial)) (.intro ty242 (.intro trivial trivial)))))))) (.intro ty26 (.intro (.intro ty42 (.intro (.intro ty74 (.intro (.intro ty138 (.intro (.intro ty266 (.intro trivial trivial)) trivial)) (.intro ty202 (.intro trivial trivial)))) (.intro ty106 (.intro (.intro ty170 (.intro (.intro ty298 (.intro trivial trivial)) trivial)) (.intro ty234 (.intro trivial trivial)))))) (.intro ty58 (.intro (.intro ty90 (.intro (.intro ty154 (.intro (.intro ty282 (.intro trivial trivial)) trivial)) (.intro ty218 (.intro trivial trivial)))) (.intro ty122 (.intro (.intro ty186 (.intro (.intro ty314 (.intro trivial trivial)) trivial)) (.intro ty250 (.intro trivial trivial)))))))))) (.intro ty14 (.intro (.intro ty22 (.intro (.intro ty38 (.intro (.intro ty70 (.intro (.intro ty134 (.intro (.intro ty262 (.intro trivial trivial)) trivial)) (.intro ty198 (.intro trivial trivial)))) (.intro ty102 (.intro (.intro ty166 (.intro (.intro ty294 (.intro trivial trivial)) trivial)) (.intro ty230 (.intro trivial trivial)))))) (.intro ty54 (.intro (.intro ty86 (.intro (.intro ty150 (.intro (.intro ty278 (.intro trivial trivial)) trivial)) (.intro ty214 (.intro trivial trivial)))) (.intro ty118 (.intro (.intro ty182 (.intro (.intro ty310 (.intro trivial trivial)) trivial)) (.intro ty246 (.intro trivial trivial)))))))) (.intro ty30 (.intro (.intro ty46 (.intro (.intro ty78 (.intro (.intro ty142 (.intro (.intro ty270 (.intro trivial trivial)) trivial)) (.intro ty206 (.intro trivial trivial)))) (.intro ty110 (.intro (.intro ty174 (.intro (.intro ty302 (.intro trivial trivial)) trivial)) (.intro ty238 (.intro trivial trivial)))))) (.intro ty62 (.intro (.intro ty94 (.intro (.intro ty158 (.intro (.intro ty286 (.intro trivial trivial)) trivial)) (.intro ty222 (.intro trivial trivial)))) (.intro ty126 (.intro (.intro ty190 (.intro trivial trivial)) (.intro ty254 (.intro trivial trivial))))))))))))))))
theorem okF : CF.All (FnOk Tryz.prog) := (.intro trivial (.intro (.intro trivial (.intro (.intro fn3 (.intro (.intro fn7 (.intro (.intro fn15 (.intro (.intro fn31 (.intro (.intro fn63 (.intro (.intro fn127 (.intro trivial trivial)) (.intro fn191 (.intro trivial trivial)))) (.intro fn95 (.intro (.intro fn159 (.intro trivial trivial)) trivial)))) (.intro fn47 (.intro (.intro fn79 (.intro (.intro fn143 (.intro trivial trivial)) (.intro trivial (.intro trivial trivial)))) (.intro fn111 (.intro (.intro fn175 (.intro trivial trivial)) trivial)))))) (.intro fn23 (.intro (.intro fn39 (.intro (.intro fn71 (.intro (.intro fn135 (.intro trivial trivial)) (.intro trivial (.intro trivial trivial)))) (.intro fn103 (.intro (.intro fn167 (.intro trivial trivial)) trivial)))) (.intro fn55 (.intro (.intro fn87 (.intro (.intro fn151 (.intro trivial trivial)) trivial)) (.intro fn119 (.intro (.intro fn183 (.intro trivial trivial)) trivial)))))))) (.intro fn11 (.intro (.intro fn19 (.intro (.intro fn35 (.intro (.intro fn67 (.intro (.intro fn131 (.intro trivial trivial)) (.intro fn195 (.intro trivial trivial)))) (.intro fn99 (.intro (.intro fn163 (.intro trivial trivial)) trivial)))) (.intro fn51 (.intro (.intro fn83 (.intro (.intro fn147 (.intro trivial trivial)) (.intro trivial (.intro trivial trivial)))) (.intro fn115 (.intro (.intro fn179 (.intro trivial trivial)) trivial)))))) (.intro fn27 (.intro (.intro fn43 (.intro (.intro fn75 (.intro (.intro fn139 (.intro trivial trivial)) (.intro trivial (.intro trivial trivial)))) (.intro fn107 (.intro (.intro fn171 (.intro trivial trivial)) trivial)))) (.intro fn59 (.intro (.intro fn91 (.intro (.intro fn155 (.intro trivial trivial)) trivial)) (.intro fn123 (.intro (.intro fn187 (.intro trivial trivial)) trivial)))))))))) (.intro fn5 (.intro (.intro fn9 (.intro (.intro fn17 (.intro (.intro fn33 (.intro (.intro fn65 (.intro (.intro fn129 (.intro trivial trivial)) (.intro fn193 (.intro trivial trivial)))) (.intro fn97 (.intro (.intro fn161 (.intro trivial trivial)) trivial)))) (.intro fn49 (.intro (.intro fn81 (.intro (.intro fn145 (.intro trivial trivial)) (.intro trivial (.intro trivial trivial)))) (.intro fn113 (.intro (.intro fn177 (.intro trivial trivial)) trivial)))))) (.intro fn25 (.intro (.intro fn41 (.intro (.intro fn73 (.intro (.intro fn137 (.intro trivial trivial)) (.intro trivial (.intro trivial trivial)))) (.intro fn105 (.intro (.intro fn169 (.intro trivial trivial)) trivial)))) (.intro fn57 (.intro (.intro fn89 (.intro (.intro fn153 (.intro trivial trivial)) trivial)) (.intro fn121 (.intro (.intro fn185 (.intro trivial trivial)) trivial)))))))) (.intro fn13 (.intro (.intro fn21 (.intro (.intro fn37 (.intro (.intro fn69 (.intro (.intro fn133 (.intro trivial trivial)) (.intro fn197 (.intro trivial trivial)))) (.intro fn101 (.intro (.intro fn165 (.intro trivial trivial)) trivial)))) (.intro fn53 (.intro (.intro fn85 (.intro (.intro fn149 (.intro trivial trivial)) (.intro trivial (.intro trivial trivial)))) (.intro fn117 (.intro (.intro fn181 (.intro trivial trivial)) trivial)))))) (.intro fn29 (.intro (.intro fn45 (.intro (.intro fn77 (.intro (.intro fn141 (.intro trivial trivial)) (.intro trivial (.intro trivial trivial)))) (.intro fn109 (.intro (.intro fn173 (.intro trivial trivial)) trivial)))) (.intro fn61 (.intro (.intro fn93 (.intro (.intro fn157 (.intro trivial trivial)) trivial)) (.intro fn125 (.intro (.intro fn189 (.intro trivial trivial)) trivial)))))))))))) (.intro fn2 (.intro (.intro fn4 (.intro (.intro fn8 (.intro (.intro fn16 (.intro (.intro fn32 (.intro (.intro fn64 (.intro (.intro fn128 (.intro trivial trivial)) (.intro fn192 (.intro trivial trivial)))) (.intro fn96 (.intro (.intro fn160 (.intro trivial trivial)) trivial)))) (.intro fn48 (.intro (.intro fn80 (.intro (.intro fn144 (.intro trivial trivial)) (.intro trivial (.intro trivial trivial)))) (.intro fn112 (.intro (.intro fn176 (.intro trivial trivial)) trivial)))))) (.intro fn24 (.intro (.intro fn40 (.intro (.intro fn72 (.intro (.intro fn136 (.intro trivial trivial)) (.intro trivial (.intro trivial trivial)))) (.intro fn104 (.intro (.intro fn168 (.intro trivial trivial)) trivial)))) (.intro fn56 (.intro (.intro fn88 (.intro (.intro fn152 (.intro trivial trivial)) trivial)) (.intro fn120 (.intro (.intro fn184 (.intro trivial trivial)) trivial)))))))) (.intro fn12 (.intro (.intro fn20 (.intro (.intro fn36 (.intro (.intro fn68 (.intro (.intro fn132 (.intro trivial trivial)) (.intro fn196 (.intro trivial trivial)))) (.intro fn100 (.intro (.intro fn164 (.intro trivial trivial)) trivial)))) (.intro fn52 (.intro (.intro fn84 (.intro (.intro fn148 (.intro trivial trivial)) (.intro trivial (.intro trivial trivial)))) (.intro fn116 (.intro (.intro fn180 (.intro trivial trivial)) trivial)))))) (.intro fn28 (.intro (.intro fn44 (.intro (.intro fn76 (.intro (.intro fn140 (.intro trivial trivial)) (.intro trivial (.intro trivial trivial)))) (.intro fn108 (.intro (.intro fn172 (.intro trivial trivial)) trivial)))) (.intro fn60 (.intro (.intro fn92 (.intro (.intro fn156 (.intro trivial trivial)) trivial)) (.intro fn124 (.intro (.intro fn188 (.intro trivial trivial)) trivial)))))))))) (.intro fn6 (.intro (.intro fn10 (.intro (.intro fn18 (.intro (.intro fn34 (.intro (.intro fn66 (.intro (.intro fn130 (.intro trivial trivial)) (.intro fn194 (.intro trivial trivial)))) (.intro fn98 (.intro (.intro fn162 (.intro trivial trivial)) trivial)))) (.intro fn50 (.intro (.intro fn82 (.intro (.intro fn146 (.intro trivial trivial)) (.intro trivial (.intro trivial trivial)))) (.intro fn114 (.intro (.intro fn178 (.intro trivial trivial)) trivial)))))) (.intro fn26 (.intro (.intro fn42 (.intro (.intro fn74 (.intro (.intro fn138 (.intro trivial trivial)) (.intro trivial (.intro trivial trivial)))) (.intro fn106 (.intro (.intro fn170 (.intro trivial trivial)) trivial)))) (.intro fn58 (.intro (.intro fn90 (.intro (.intro fn154 (.intro trivial trivial)) trivial)) (.intro fn122 (.intro (.intro fn186 (.intro trivial trivial)) trivial)))))))) (.intro fn14 (.intro (.intro fn22 (.intro (.intro fn38 (.intro (.intro fn70 (.intro (.intro fn134 (.intro trivial trivial)) (.intro trivial (.intro trivial trivial)))) (.intro fn102 (.intro (.intro fn166 (.intro trivial trivial)) trivial)))) (.intro fn54 (.intro (.intro fn86 (.intro (.intro fn150 (.intro trivial trivial)) trivial)) (.intro fn118 (.intro (.intro fn182 (.intro trivial trivial)) trivial)))))) (.intro fn30 (.intro (.intro fn46 (.intro (.intro fn78 (.intro (.intro fn142 (.intro trivial trivial)) (.intro trivial (.intro trivial trivial)))) (.intro fn110 (.intro (.intro fn174 (.intro trivial trivial)) trivial)))) (.intro fn62 (.intro (.intro fn94 (.intro (.intro fn158 (.intro trivial trivial)) trivial)) (.intro fn126 (.intro (.intro fn190 (.intro trivial trivial)) trivial))))))))))))))
theorem okP : CF.All (fun _ x => codeOk planOk x.plans x.code = true) := (.intro trivial (.intro (.intro trivial (.intro (.intro pl3 (.intro (.intro pl7 (.intro (.intro pl15 (.intro (.intro pl31 (.intro (.intro pl63 (.intro (.intro pl127 (.intro trivial trivial)) (.intro pl191 (.intro trivial trivial)))) (.intro pl95 (.intro (.intro pl159 (.intro trivial trivial)) trivial)))) (.intro pl47 (.intro (.intro pl79 (.intro (.intro pl143 (.intro trivial trivial)) (.intro trivial (.intro trivial trivial)))) (.intro pl111 (.intro (.intro pl175 (.intro trivial trivial)) trivial)))))) (.intro pl23 (.intro (.intro pl39 (.intro (.intro pl71 (.intro (.intro pl135 (.intro trivial trivial)) (.intro trivial (.intro trivial trivial)))) (.intro pl103 (.intro (.intro pl167 (.intro trivial trivial)) trivial)))) (.intro pl55 (.intro (.intro pl87 (.intro (.intro pl151 (.intro trivial trivial)) trivial)) (.intro pl119 (.intro (.intro pl183 (.intro trivial trivial)) trivial)))))))) (.intro pl11 (.intro (.intro pl19 (.intro (.intro pl35 (.intro (.intro pl67 (.intro (.intro pl131 (.intro trivial trivial)) (.intro pl195 (.intro trivial trivial)))) (.intro pl99 (.intro (.intro pl163 (.intro trivial trivial)) trivial)))) (.intro pl51 (.intro (.intro pl83 (.intro (.intro pl147 (.intro trivial trivial)) (.intro trivial (.intro trivial trivial)))) (.intro pl115 (.intro (.intro pl179 (.intro trivial trivial)) trivial)))))) (.intro pl27 (.intro (.intro pl43 (.intro (.intro pl75 (.intro (.intro pl139 (.intro trivial trivial)) (.intro trivial (.intro trivial trivial)))) (.intro pl107 (.intro (.intro pl171 (.intro trivial trivial)) trivial)))) (.intro pl59 (.intro (.intro pl91 (.intro (.intro pl155 (.intro trivial trivial)) trivial)) (.intro pl123 (.intro (.intro pl187 (.intro trivial trivial)) trivial)))))))))) (.intro pl5 (.intro (.intro pl9 (.intro (.intro pl17 (.intro (.intro pl33 (.intro (.intro pl65 (.intro (.intro pl129 (.intro trivial trivial)) (.intro pl193 (.intro trivial trivial)))) (.intro pl97 (.intro (.intro pl161 (.intro trivial trivial)) trivial)))) (.intro pl49 (.intro (.intro pl81 (.intro (.intro pl145 (.intro trivial trivial)) (.intro trivial (.intro trivial trivial)))) (.intro pl113 (.intro (.intro pl177 (.intro trivial trivial)) trivial)))))) (.intro pl25 (.intro (.intro pl41 (.intro (.intro pl73 (.intro (.intro pl137 (.intro trivial trivial)) (.intro trivial (.intro trivial trivial)))) (.intro pl105 (.intro (.intro pl169 (.intro trivial trivial)) trivial)))) (.intro pl57 (.intro (.intro pl89 (.intro (.intro pl153 (.intro trivial trivial)) trivial)) (.intro pl121 (.intro (.intro pl185 (.intro trivial trivial)) trivial)))))))) (.intro pl13 (.intro (.intro pl21 (.intro (.intro pl37 (.intro (.intro pl69 (.intro (.intro pl133 (.intro trivial trivial)) (.intro pl197 (.intro trivial trivial)))) (.intro pl101 (.intro (.intro pl165 (.intro trivial trivial)) trivial)))) (.intro pl53 (.intro (.intro pl85 (.intro (.intro pl149 (.intro trivial trivial)) (.intro trivial (.intro trivial trivial)))) (.intro pl117 (.intro (.intro pl181 (.intro trivial trivial)) trivial)))))) (.intro pl29 (.intro (.intro pl45 (.intro (.intro pl77 (.intro (.intro pl141 (.intro trivial trivial)) (.intro trivial (.intro trivial trivial)))) (.intro pl109 (.intro (.intro pl173 (.intro trivial trivial)) trivial)))) (.intro pl61 (.intro (.intro pl93 (.intro (.intro pl157 (.intro trivial trivial)) trivial)) (.intro pl125 (.intro (.intro pl189 (.intro trivial trivial)) trivial)))))))))))) (.intro pl2 (.intro (.intro pl4 (.intro (.intro pl8 (.intro (.intro pl16 (.intro (.intro pl32 (.intro (.intro pl64 (.intro (.intro pl128 (.intro trivial trivial)) (.intro pl192 (.intro trivial trivial)))) (.intro pl96 (.intro (.intro pl160 (.intro trivial trivial)) trivial)))) (.intro pl48 (.intro (.intro pl80 (.intro (.intro pl144 (.intro trivial trivial)) (.intro trivial (.intro trivial trivial)))) (.intro pl112 (.intro (.intro pl176 (.intro trivial trivial)) trivial)))))) (.intro pl24 (.intro (.intro pl40 (.intro (.intro pl72 (.intro (.intro pl136 (.intro trivial trivial)) (.intro trivial (.intro trivial trivial)))) (.intro pl104 (.intro (.intro pl168 (.intro trivial trivial)) trivial)))) (.intro pl56 (.intro (.intro pl88 (.intro (.intro pl152 (.intro trivial trivial)) trivial)) (.intro pl120 (.intro (.intro pl184 (.intro trivial trivial)) trivial)))))))) (.intro pl12 (.intro (.intro pl20 (.intro (.intro pl36 (.intro (.intro pl68 (.intro (.intro pl132 (.intro trivial trivial)) (.intro pl196 (.intro trivial trivial)))) (.intro pl100 (.intro (.intro pl164 (.intro trivial trivial)) trivial)))) (.intro pl52 (.intro (.intro pl84 (.intro (.intro pl148 (.intro trivial trivial)) (.intro trivial (.intro trivial trivial)))) (.intro pl116 (.intro (.intro pl180 (.intro trivial trivial)) trivial)))))) (.intro pl28 (.intro (.intro pl44 (.intro (.intro pl76 (.intro (.intro pl140 (.intro trivial trivial)) (.intro trivial (.intro trivial trivial)))) (.intro pl108 (.intro (.intro pl172 (.intro trivial trivial)) trivial)))) (.intro pl60 (.intro (.intro pl92 (.intro (.intro pl156 (.intro trivial trivial)) trivial)) (.intro pl124 (.intro (.intro pl188 (.intro trivial trivial)) trivial)))))))))) (.intro pl6 (.intro (.intro pl10 (.intro (.intro pl18 (.intro (.intro pl34 (.intro (.intro pl66 (.intro (.intro pl130 (.intro trivial trivial)) (.intro pl194 (.intro trivial trivial)))) (.intro pl98 (.intro (.intro pl162 (.intro trivial trivial)) trivial)))) (.intro pl50 (.intro (.intro pl82 (.intro (.intro pl146 (.intro trivial trivial)) (.intro trivial (.intro trivial trivial)))) (.intro pl114 (.intro (.intro pl178 (.intro trivial trivial)) trivial)))))) (.intro pl26 (.intro (.intro pl42 (.intro (.intro pl74 (.intro (.intro pl138 (.intro trivial trivial)) (.intro trivial (.intro trivial trivial)))) (.intro pl106 (.intro (.intro pl170 (.intro trivial trivial)) trivial)))) (.intro pl58 (.intro (.intro pl90 (.intro (.intro pl154 (.intro trivial trivial)) trivial)) (.intro pl122 (.intro (.intro pl186 (.intro trivial trivial)) trivial)))))))) (.intro pl14 (.intro (.intro pl22 (.intro (.intro pl38 (.intro (.intro pl70 (.intro (.intro pl134 (.intro trivial trivial)) (.intro trivial (.intro trivial trivial)))) (.intro pl102 (.intro (.intro pl166 (.intro trivial trivial)) trivial)))) (.intro pl54 (.intro (.intro pl86 (.intro (.intro pl150 (.intro trivial trivial)) trivial)) (.intro pl118 (.intro (.intro pl182 (.intro trivial trivial)) trivial)))))) (.intro pl30 (.intro (.intro pl46 (.intro (.intro pl78 (.intro (.intro pl142 (.intro trivial trivial)) (.intro trivial (.intro trivial trivial)))) (.intro pl110 (.intro (.intro pl174 (.intro trivial trivial)) trivial)))) (.intro pl62 (.intro (.intro pl94 (.intro (.intro pl158 (.intro trivial trivial)) trivial)) (.intro pl126 (.intro (.intro pl190 (.intro trivial trivial)) trivial))))))))))))))
theorem ok : C.Ok Tryz.prog := ⟨fun _ _ h => Tr.all_get okT h, fun _ _ h => Tr.all_get okF h⟩
theorem plans : PlansOk C := fun _ _ h => Tr.all_get okP h
end Go.Proofs.YtaebmdinecilbaaGreat.T
