/- Ghost code of the Go functions, printed by a program of this session (genfiles.py). -/
import Derived.Test.YtbofkbhobcahiaaGreatEvComp
import Derived.Test.YtbofkbhobcahiaaGreatProg
namespace Go.Ev
open Go.Proofs
set_option maxRecDepth 100000
noncomputable section
/-- pianola/pianolalaw15.BusNumbers -/
def g3 : GFunc := ⟨0, (.seq (.reg fun _ fr h k =>
  forceG (.bool false) fun v => Tr.setK .bad v q0 fr fun f0 =>
  k f0 h)
 (.seq (.reg fun call fr h k =>
  obind2 (nMakeS [.int .u8 (.ofNat 0)] 1 1 (some (.u8, 8)) (.int .i64 (.ofNat 2000)) (.int .i64 (.ofNat 2000)) h) fun v0 h1 =>
  obind2 (nBuildS (rep [.int .u8 (.ofNat 0)] 1) 1 1 (some (.u8, 8)) [(0, 1, (.int .u8 (.ofNat 120)))] h1) fun v1 h2 =>
  obind2 (nConv v1 h2) fun v2 h3 =>
  call q8 [(.int .i64 (.ofNat 1)), v0, v2] h3 fun v3 h4 =>
  obind2 (nMakeS [.int .u8 (.ofNat 0)] 1 1 (some (.u8, 8)) (.int .i64 (.ofNat 2000)) (.int .i64 (.ofNat 2000)) h4) fun v4 h5 =>
  obind2 (nBuildS (rep [.int .u8 (.ofNat 0)] 1) 1 1 (some (.u8, 8)) [(0, 1, (.int .u8 (.ofNat 120)))] h5) fun v5 h6 =>
  obind2 (nConv v5 h6) fun v6 h7 =>
  call q9 [(.int .i64 (.ofNat 1)), v4, v6] h7 fun v7 h8 =>
  chk v2 (rRow v1 h4) <|
  chk v2 (rRow v1 h8) <|
  chk v6 (rRow v5 h8) <|
  forceG v3 fun v => Tr.setK .bad v q1 fr fun f1 =>
  forceG v7 fun v => Tr.setK .bad v q2 f1 fun f2 =>
  k f2 h8)
 (.seq (.seq (.reg fun _ fr h k =>
  obind (pEqlN 0 (Tr.get .bad q1 fr) .nilp) fun v0 =>
  forceG v0 fun v => Tr.setK .bad v q26 fr fun f26 =>
  k f26 h)
 (.cond 26 q26 (.seq (.reg fun _ fr h k =>
  forceG (.bool false) fun v => Tr.setK .bad v q0 fr fun f0 =>
  k f0 h)
 .ret)
 .skip))
 (.seq (.seq (.reg fun _ fr h k =>
  forceG (.int .u32 (.ofNat 0)) fun v => Tr.setK .bad v q3 fr fun f3 =>
  k f3 h)
 (.block 0 (.loop (.seq (.seq (.reg fun _ fr h k =>
  obind (pLss (Tr.get .bad q3 fr) (.int .u32 (.ofNat 448))) fun v0 =>
  forceG v0 fun v => Tr.setK .bad v q28 fr fun f28 =>
  k f28 h)
 (.cond 28 q28 .skip
 (.exit 0)))
 (.seq (.block 1 (.seq (.reg fun _ fr h k =>
  obind2 (nBuildS (rep [.int .i64 (.ofNat 0)] 4) 4 1 (some (.i64, 64)) [(0, 1, (.int .i64 (.ofNat 1))), (1, 1, (.int .i64 (.ofNat 2))), (2, 1, (.int .i64 (.ofNat 4))), (3, 1, (.int .i64 (.ofNat 3)))] h) fun v0 h1 =>
  obind (pLenS v0) fun v1 =>
  forceG v0 fun v => Tr.setK .bad v q31 fr fun f31 =>
  forceG v1 fun v => Tr.setK .bad v q32 f31 fun f32 =>
  forceG (.int .i64 (.ofNat 0)) fun v => Tr.setK .bad v q33 f32 fun f33 =>
  k f33 h1)
 (.block 2 (.loop (.seq (.reg fun _ fr h k =>
  obind (pLss (Tr.get .bad q33 fr) (Tr.get .bad q32 fr)) fun v0 =>
  forceG v0 fun v => Tr.setK .bad v q34 fr fun f34 =>
  k f34 h)
 (.seq (.cond 34 q34 .skip
 (.exit 2))
 (.seq (.block 3 (.seq (.reg fun _ fr h k =>
  obind (pIdxS 1 (Tr.get .bad q31 fr) (Tr.get .bad q33 fr)) fun v0 =>
  obind (rLd1 v0 h) fun v1 =>
  forceG v1 fun v => Tr.setK .bad v q5 fr fun f5 =>
  k f5 h)
 (.seq (.reg fun call fr h k =>
  obind (pAdd (.int .u32 (.ofNat 520093688)) (Tr.get .bad q3 fr)) fun v0 =>
  call q10 [(Tr.get .bad q1 fr), v0, (Tr.get .bad q5 fr), (.int .i64 (.ofNat 5))] h fun v1 h2 =>
  obind (pExt 0 v1) fun v2 =>
  obind (pExt 1 v1) fun v3 =>
  forceG v2 fun v => Tr.setK .bad v q6 fr fun f6 =>
  forceG v3 fun v => Tr.setK .bad v q7 f6 fun f7 =>
  k f7 h2)
 (.seq (.reg fun call fr h k =>
  obind (pAdd (.int .u32 (.ofNat 520093688)) (Tr.get .bad q3 fr)) fun v0 =>
  call q11 [(Tr.get .bad q2 fr), v0, (Tr.get .bad q5 fr), (.int .i64 (.ofNat 5))] h fun v1 h2 =>
  obind (pExt 0 v1) fun v2 =>
  obind (pExt 1 v1) fun v3 =>
  forceG v2 fun v => Tr.setK .bad v q8 fr fun f8 =>
  forceG v3 fun v => Tr.setK .bad v q9 f8 fun f9 =>
  k f9 h2)
 (.seq (.reg fun call fr h k =>
  obind (pNeq (Tr.get .bad q6 fr) (Tr.get .bad q8 fr)) fun v0 =>
  guardC v0 false h (fun k => k (Tr.get .bad q7 fr) h) fun v1 h2 =>
  guardC v0 false h2 (fun k => k (Tr.get .bad q9 fr) h2) fun v2 h3 =>
  guardC v0 false h3 (fun k => obind (pNeqB v1 v2) fun v => k v h3) fun v3 h4 =>
  obind (pPick v0 (.bool true) v3) fun v4 =>
  guardC v4 false h4 (fun k => k (Tr.get .bad q1 fr) h4) fun v5 h6 =>
  guardC v4 false h6 (fun k => k (Tr.get .bad q3 fr) h6) fun v6 h7 =>
  guardC v4 false h7 (fun k => obind (pAdd (.int .u32 (.ofNat 520093688)) v6) fun v => k v h7) fun v7 h8 =>
  guardC v4 false h8 (fun k => k (Tr.get .bad q5 fr) h8) fun v8 h9 =>
  guardC v4 false h9 (fun k => k (Tr.get .bad q3 fr) h9) fun v9 h10 =>
  guardC v4 false h10 (fun k => call q12 [v5, v7, v8, v9, (.int .i64 (.ofNat 5))] h10 k) fun v10 h11 =>
  guardC v4 false h11 (fun k => k (Tr.get .bad q2 fr) h11) fun v11 h12 =>
  guardC v4 false h12 (fun k => k (Tr.get .bad q3 fr) h12) fun v12 h13 =>
  guardC v4 false h13 (fun k => obind (pAdd (.int .u32 (.ofNat 520093688)) v12) fun v => k v h13) fun v13 h14 =>
  guardC v4 false h14 (fun k => k (Tr.get .bad q5 fr) h14) fun v14 h15 =>
  guardC v4 false h15 (fun k => k (Tr.get .bad q3 fr) h15) fun v15 h16 =>
  guardC v4 false h16 (fun k => call q13 [v11, v13, v14, v15, (.int .i64 (.ofNat 5))] h16 k) fun v16 h17 =>
  guardC v4 false h17 (fun k => obind (pNeqB v10 v16) fun v => k v h17) fun v17 h18 =>
  obind (pPick v4 (.bool true) v17) fun v18 =>
  guardC v18 false h18 (fun k => k (Tr.get .bad q1 fr) h18) fun v19 h20 =>
  guardC v18 false h20 (fun k => k (Tr.get .bad q2 fr) h20) fun v20 h21 =>
  guardC v18 false h21 (fun k => call q14 [v19, v20] h21 k) fun v21 h22 =>
  guardC v18 false h22 (fun k => obind (pNot v21) fun v => k v h22) fun v22 h23 =>
  obind (pPick v18 (.bool true) v22) fun v23 =>
  forceG v23 fun v => Tr.setK .bad v q81 fr fun f81 =>
  k f81 h23)
 (.cond 81 q81 (.seq (.reg fun _ fr h k =>
  forceG (.bool false) fun v => Tr.setK .bad v q0 fr fun f0 =>
  k f0 h)
 .ret)
 .skip))))))
 (.reg fun _ fr h k =>
  obind (pAdd (Tr.get .bad q33 fr) (.int .i64 (.ofNat 1))) fun v0 =>
  forceG v0 fun v => Tr.setK .bad v q33 fr fun f33 =>
  k f33 h))))))))
 (.reg fun _ fr h k =>
  obind (pAdd (Tr.get .bad q3 fr) (.int .u32 (.ofNat 1))) fun v0 =>
  forceG v0 fun v => Tr.setK .bad v q3 fr fun f3 =>
  k f3 h))))))
 (.seq (.seq (.reg fun _ fr h k =>
  obind2 (nBuildS (rep [.int .u32 (.ofNat 0)] 6) 6 1 (some (.u32, 32)) [(0, 1, (.int .u32 (.ofNat 1020))), (1, 1, (.int .u32 (.ofNat 1023))), (2, 1, (.int .u32 (.ofNat 1024))), (3, 1, (.int .u32 (.ofNat 2000))), (4, 1, (.int .u32 (.ofNat 2147483648))), (5, 1, (.int .u32 (.ofNat 4294967295)))] h) fun v0 h1 =>
  obind (pLenS v0) fun v1 =>
  forceG v0 fun v => Tr.setK .bad v q83 fr fun f83 =>
  forceG v1 fun v => Tr.setK .bad v q84 f83 fun f84 =>
  forceG (.int .i64 (.ofNat 0)) fun v => Tr.setK .bad v q85 f84 fun f85 =>
  k f85 h1)
 (.block 4 (.loop (.seq (.reg fun _ fr h k =>
  obind (pLss (Tr.get .bad q85 fr) (Tr.get .bad q84 fr)) fun v0 =>
  forceG v0 fun v => Tr.setK .bad v q86 fr fun f86 =>
  k f86 h)
 (.seq (.cond 86 q86 .skip
 (.exit 4))
 (.seq (.block 5 (.seq (.reg fun _ fr h k =>
  obind (pIdxS 1 (Tr.get .bad q83 fr) (Tr.get .bad q85 fr)) fun v0 =>
  obind (rLd1 v0 h) fun v1 =>
  forceG v1 fun v => Tr.setK .bad v q11 fr fun f11 =>
  k f11 h)
 (.seq (.reg fun _ fr h k =>
  forceG (.int .i64 (.ofNat 0)) fun v => Tr.setK .bad v q12 fr fun f12 =>
  k f12 h)
 (.block 6 (.loop (.seq (.seq (.reg fun _ fr h k =>
  obind (pLss (Tr.get .bad q12 fr) (.int .i64 (.ofNat 6))) fun v0 =>
  forceG v0 fun v => Tr.setK .bad v q90 fr fun f90 =>
  k f90 h)
 (.cond 90 q90 .skip
 (.exit 6)))
 (.seq (.block 7 (.seq (.reg fun call fr h k =>
  call q10 [(Tr.get .bad q1 fr), (Tr.get .bad q11 fr), (Tr.get .bad q12 fr), (.int .i64 (.ofNat 9))] h fun v0 h1 =>
  obind (pExt 0 v0) fun v1 =>
  obind (pExt 1 v0) fun v2 =>
  forceG v1 fun v => Tr.setK .bad v q13 fr fun f13 =>
  forceG v2 fun v => Tr.setK .bad v q14 f13 fun f14 =>
  k f14 h1)
 (.seq (.reg fun call fr h k =>
  call q11 [(Tr.get .bad q2 fr), (Tr.get .bad q11 fr), (Tr.get .bad q12 fr), (.int .i64 (.ofNat 9))] h fun v0 h1 =>
  obind (pExt 0 v0) fun v1 =>
  obind (pExt 1 v0) fun v2 =>
  forceG v1 fun v => Tr.setK .bad v q15 fr fun f15 =>
  forceG v2 fun v => Tr.setK .bad v q16 f15 fun f16 =>
  k f16 h1)
 (.seq (.reg fun call fr h k =>
  obind (pNeq (Tr.get .bad q13 fr) (Tr.get .bad q15 fr)) fun v0 =>
  guardC v0 false h (fun k => k (Tr.get .bad q14 fr) h) fun v1 h2 =>
  guardC v0 false h2 (fun k => k (Tr.get .bad q16 fr) h2) fun v2 h3 =>
  guardC v0 false h3 (fun k => obind (pNeqB v1 v2) fun v => k v h3) fun v3 h4 =>
  obind (pPick v0 (.bool true) v3) fun v4 =>
  guardC v4 false h4 (fun k => k (Tr.get .bad q1 fr) h4) fun v5 h6 =>
  guardC v4 false h6 (fun k => k (Tr.get .bad q11 fr) h6) fun v6 h7 =>
  guardC v4 false h7 (fun k => k (Tr.get .bad q12 fr) h7) fun v7 h8 =>
  guardC v4 false h8 (fun k => call q12 [v5, v6, v7, (.int .u32 (.ofNat 7)), (.int .i64 (.ofNat 9))] h8 k) fun v8 h9 =>
  guardC v4 false h9 (fun k => k (Tr.get .bad q2 fr) h9) fun v9 h10 =>
  guardC v4 false h10 (fun k => k (Tr.get .bad q11 fr) h10) fun v10 h11 =>
  guardC v4 false h11 (fun k => k (Tr.get .bad q12 fr) h11) fun v11 h12 =>
  guardC v4 false h12 (fun k => call q13 [v9, v10, v11, (.int .u32 (.ofNat 7)), (.int .i64 (.ofNat 9))] h12 k) fun v12 h13 =>
  guardC v4 false h13 (fun k => obind (pNeqB v8 v12) fun v => k v h13) fun v13 h14 =>
  obind (pPick v4 (.bool true) v13) fun v14 =>
  forceG v14 fun v => Tr.setK .bad v q125 fr fun f125 =>
  k f125 h14)
 (.cond 125 q125 (.seq (.reg fun _ fr h k =>
  forceG (.bool false) fun v => Tr.setK .bad v q0 fr fun f0 =>
  k f0 h)
 .ret)
 .skip)))))
 (.reg fun _ fr h k =>
  obind (pAdd (Tr.get .bad q12 fr) (.int .i64 (.ofNat 1))) fun v0 =>
  forceG v0 fun v => Tr.setK .bad v q12 fr fun f12 =>
  k f12 h))))))))
 (.reg fun _ fr h k =>
  obind (pAdd (Tr.get .bad q85 fr) (.int .i64 (.ofNat 1))) fun v0 =>
  forceG v0 fun v => Tr.setK .bad v q85 fr fun f85 =>
  k f85 h)))))))
 (.seq (.reg fun call fr h k =>
  call q15 [(Tr.get .bad q1 fr), (.int .i64 (.ofNat 5000))] h fun v0 h1 =>
  call q16 [(Tr.get .bad q2 fr), (.int .i64 (.ofNat 5000))] h1 fun v1 h2 =>
  obind (pEql v0 v1) fun v2 =>
  guardC v2 true h2 (fun k => k (Tr.get .bad q1 fr) h2) fun v3 h4 =>
  guardC v2 true h4 (fun k => k (Tr.get .bad q2 fr) h4) fun v4 h5 =>
  guardC v2 true h5 (fun k => call q14 [v3, v4] h5 k) fun v5 h6 =>
  obind (pPick v2 v5 (.bool false)) fun v6 =>
  guardC v6 true h6 (fun k => call q17 [] h6 k) fun v7 h8 =>
  obind (pPick v6 v7 (.bool false)) fun v8 =>
  forceG v8 fun v => Tr.setK .bad v q0 fr fun f0 =>
  k f0 h8)
 .ret)))))), resF [.t 0]⟩
theorem g3_ok : Comp Tryz.prog Tryz.f3 0 [0, 1, 2, 3, 5, 6, 7, 8, 9, 11, 12, 13, 14, 15, 16, 26, 28, 31, 32, 33, 34, 81, 83, 84, 85, 86, 90, 125] g3 := ⟨_, [.t 0], rfl, by kernel_rfl, by decide, by kernel_rfl, by kernel_rfl, rfl, rfl⟩
/-- pianola/bus.New -/
def g8 : GFunc := ⟨3, (.seq (.reg fun _ fr h k =>
  forceG .nilp fun v => Tr.setK .bad v q6 fr fun f6 =>
  k f6 h)
 (.seq (.reg fun call fr h k =>
  call q27 [(Tr.get .bad q0 fr)] h fun v0 h1 =>
  call q28 [] h1 fun v1 h2 =>
  forceG v0 fun v => Tr.setK .bad v q7 fr fun f7 =>
  forceG v1 fun v => Tr.setK .bad v q8 f7 fun f8 =>
  k f8 h2)
 (.seq (.reg fun call fr h k =>
  obind (pLenS (Tr.get .bad q1 fr)) fun v0 =>
  call q30 [(Tr.get .bad q7 fr)] h fun v1 h2 =>
  obind (pConv .i64 v1) fun v2 =>
  obind (pMin v0 v2) fun v3 =>
  obind (pSlS 1 none (some v3) none (Tr.get .bad q1 fr)) fun v4 =>
  call q29 [(Tr.get .bad q7 fr), (.int .u32 (.ofNat 0)), v4] h2 fun _ h6 =>
  k fr h6)
 (.seq (.reg fun call fr h k =>
  call q31 [] h fun v0 h1 =>
  call q32 [(.int .i64 (.ofNat 1)), (Tr.get .bad q8 fr)] h1 fun v1 h2 =>
  call q32 [(.int .i64 (.ofNat 2)), (Tr.get .bad q8 fr)] h2 fun v2 h3 =>
  call q33 [(.int .i64 (.ofNat 3)), (Tr.get .bad q8 fr)] h3 fun v3 h4 =>
  call q34 [(.int .i64 (.ofNat 4)), (Tr.get .bad q8 fr), (Tr.get .bad q7 fr)] h4 fun v4 h5 =>
  call q35 [(.int .i64 (.ofNat 5)), (Tr.get .bad q8 fr), (Tr.get .bad q7 fr), (Tr.get .bad q2 fr)] h5 fun v5 h6 =>
  obind (pBuild [.nilp, .nilp, .nilp, .nilp, .nilp, .nilp, .nilp, .nilp] [(0, 1, (Tr.get .bad q7 fr)), (1, 1, (Tr.get .bad q8 fr)), (2, 1, v0), (3, 1, v1), (4, 1, v2), (5, 1, v3), (6, 1, v4), (7, 1, v5)]) fun v6 =>
  obind2 (nBox v6 h6) fun v7 h8 =>
  forceG v7 fun v => Tr.setK .bad v q6 fr fun f6 =>
  k f6 h8)
 .ret)))), resF [.t 6]⟩
theorem g8_ok : Comp Tryz.prog Tryz.f8 3 [6, 7, 8] g8 := ⟨_, [.t 6], rfl, by kernel_rfl, by decide, by kernel_rfl, by kernel_rfl, rfl, rfl⟩
/-- pianola/pianolaref15.New -/
def g9 : GFunc := ⟨3, (.seq (.reg fun _ fr h k =>
  forceG .nilp fun v => Tr.setK .bad v q6 fr fun f6 =>
  k f6 h)
 (.seq (.reg fun call fr h k =>
  call q36 [(Tr.get .bad q0 fr)] h fun v0 h1 =>
  obind (pBuild [.nilp, .nils, .int .i64 (.ofNat 0), .int .u32 (.ofNat 0), .int .u32 (.ofNat 0), .int .u32 (.ofNat 0), .int .u32 (.ofNat 0), .int .u32 (.ofNat 0), .int .u32 (.ofNat 0), .nils, .nils, .bool false, .int .u32 (.ofNat 0), .nils, .int .u32 (.ofNat 0), .int .u32 (.ofNat 0), .int .u32 (.ofNat 0), .int .u32 (.ofNat 0), .int .u32 (.ofNat 0), .int .u32 (.ofNat 0), .int .u32 (.ofNat 0), .int .u32 (.ofNat 0), .nils, .int .u32 (.ofNat 0), .int .u32 (.ofNat 0)] [(0, 1, v0)]) fun v1 =>
  obind2 (nBox v1 h1) fun v2 h3 =>
  forceG v2 fun v => Tr.setK .bad v q7 fr fun f7 =>
  k f7 h3)
 (.seq (.reg fun _ fr h k =>
  obind (pNilck (Tr.get .bad q7 fr)) fun v0 =>
  obind (pFa 0 v0) fun v1 =>
  obind (rLd1 v1 h) fun v2 =>
  obind (pNilck v2) fun v3 =>
  obind (pFa 0 v3) fun v4 =>
  obind (rLd1 v4 h) fun v5 =>
  obind2 (nCopy 1 v5 (Tr.get .bad q1 fr) h) fun _ h7 =>
  k fr h7)
 (.seq (.reg fun _ fr h k =>
  obind (pLenS (Tr.get .bad q2 fr)) fun v0 =>
  obind (pAdd v0 (.int .i64 (.ofNat 64))) fun v1 =>
  obind (pSub v1 (.int .i64 (.ofNat 1))) fun v2 =>
  obind (pQuo v2 (.int .i64 (.ofNat 64))) fun v3 =>
  obind (pMin v3 (.int .i64 (.ofNat 64))) fun v4 =>
  forceG v4 fun v => Tr.setK .bad v q8 fr fun f8 =>
  k f8 h)
 (.seq (.reg fun _ fr h k =>
  obind (pMul (Tr.get .bad q8 fr) (.int .i64 (.ofNat 64))) fun v0 =>
  obind2 (nMakeS [.int .u8 (.ofNat 0)] 1 1 (some (.u8, 8)) v0 v0 h) fun v1 h2 =>
  obind (pNilck (Tr.get .bad q7 fr)) fun v2 =>
  obind (pFa 18 v2) fun v3 =>
  obind (pFa 4 v3) fun v4 =>
  obind (wSt1 v4 v1 h2) fun h6 =>
  k fr h6)
 (.seq (.reg fun _ fr h k =>
  obind (pNilck (Tr.get .bad q7 fr)) fun v0 =>
  obind (pFa 18 v0) fun v1 =>
  obind (pFa 4 v1) fun v2 =>
  obind (rLd1 v2 h) fun v3 =>
  obind2 (nCopy 1 v3 (Tr.get .bad q2 fr) h) fun _ h5 =>
  k fr h5)
 (.seq (.reg fun _ fr h k =>
  forceG (Tr.get .bad q7 fr) fun v => Tr.setK .bad v q6 fr fun f6 =>
  k f6 h)
 .ret))))))), resF [.t 6]⟩
theorem g9_ok : Comp Tryz.prog Tryz.f9 3 [6, 7, 8] g9 := ⟨_, [.t 6], rfl, by kernel_rfl, by decide, by kernel_rfl, by kernel_rfl, rfl, rfl⟩
/-- (*pianola/bus.Bus).Load -/
def g10 : GFunc := ⟨4, (.seq (.reg fun _ fr h k =>
  forceG (.int .u32 (.ofNat 0)) fun v => Tr.setK .bad v q8 fr fun f8 =>
  forceG (.bool false) fun v => Tr.setK .bad v q9 f8 fun f9 =>
  k f9 h)
 (.seq (.seq (.reg fun call fr h k =>
  obind (pNilck (Tr.get .bad q0 fr)) fun v0 =>
  obind (pFa 0 v0) fun v1 =>
  obind (rLd1 v1 h) fun v2 =>
  call q30 [v2] h fun v3 h4 =>
  obind (pLss (Tr.get .bad q1 fr) v3) fun v4 =>
  forceG v4 fun v => Tr.setK .bad v q20 fr fun f20 =>
  k f20 h4)
 (.cond 20 q20 (.seq (.reg fun call fr h k =>
  obind (pNilck (Tr.get .bad q0 fr)) fun v0 =>
  obind (pFa 0 v0) fun v1 =>
  obind (rLd1 v1 h) fun v2 =>
  call q24 [v2, (Tr.get .bad q1 fr), (Tr.get .bad q2 fr)] h fun v3 h4 =>
  obind (pExt 0 v3) fun v4 =>
  obind (pExt 1 v3) fun v5 =>
  forceG v4 fun v => Tr.setK .bad v q8 fr fun f8 =>
  forceG v5 fun v => Tr.setK .bad v q9 f8 fun f9 =>
  k f9 h4)
 .ret)
 .skip))
 (.seq (.reg fun call fr h k =>
  call q37 [(Tr.get .bad q1 fr), (Tr.get .bad q2 fr)] h fun v0 h1 =>
  obind (pExt 0 v0) fun v1 =>
  obind (pExt 1 v0) fun v2 =>
  obind (pExt 2 v0) fun v3 =>
  forceG v1 fun v => Tr.setK .bad v q10 fr fun f10 =>
  forceG v2 fun v => Tr.setK .bad v q11 f10 fun f11 =>
  forceG v3 fun v => Tr.setK .bad v q12 f11 fun f12 =>
  k f12 h1)
 (.seq (.seq (.reg fun _ fr h k =>
  obind (pNot (Tr.get .bad q12 fr)) fun v0 =>
  forceG v0 fun v => Tr.setK .bad v q38 fr fun f38 =>
  k f38 h)
 (.cond 38 q38 (.seq (.reg fun _ fr h k =>
  forceG (.int .u32 (.ofNat 0)) fun v => Tr.setK .bad v q8 fr fun f8 =>
  forceG (.bool false) fun v => Tr.setK .bad v q9 f8 fun f9 =>
  k f9 h)
 .ret)
 .skip))
 (.seq (.reg fun call fr h k =>
  call q38 [(Tr.get .bad q0 fr), (Tr.get .bad q10 fr), (Tr.get .bad q11 fr), (Tr.get .bad q3 fr)] h fun v0 h1 =>
  obind (pExt 0 v0) fun v1 =>
  obind (pExt 1 v0) fun v2 =>
  forceG v1 fun v => Tr.setK .bad v q13 fr fun f13 =>
  forceG v2 fun v => Tr.setK .bad v q12 f13 fun f12 =>
  k f12 h1)
 (.seq (.reg fun call fr h k =>
  call q39 [(Tr.get .bad q0 fr)] h fun _ h1 =>
  k fr h1)
 (.seq (.reg fun _ fr h k =>
  forceG (Tr.get .bad q13 fr) fun v => Tr.setK .bad v q8 fr fun f8 =>
  forceG (Tr.get .bad q12 fr) fun v => Tr.setK .bad v q9 f8 fun f9 =>
  k f9 h)
 .ret))))))), resF [.t 8, .t 9]⟩
theorem g10_ok : Comp Tryz.prog Tryz.f10 4 [8, 9, 10, 11, 12, 13, 20, 38] g10 := ⟨_, [.t 8, .t 9], rfl, by kernel_rfl, by decide, by kernel_rfl, by kernel_rfl, rfl, rfl⟩
/-- (*pianola/pianolaref15.Bus).Load -/
def g11 : GFunc := ⟨4, (.seq (.reg fun _ fr h k =>
  forceG (.int .u32 (.ofNat 0)) fun v => Tr.setK .bad v q8 fr fun f8 =>
  forceG (.bool false) fun v => Tr.setK .bad v q9 f8 fun f9 =>
  k f9 h)
 (.seq (.seq (.reg fun _ fr h k =>
  obind (pNilck (Tr.get .bad q0 fr)) fun v0 =>
  obind (pFa 0 v0) fun v1 =>
  obind (rLd1 v1 h) fun v2 =>
  obind (pNilck v2) fun v3 =>
  obind (pFa 0 v3) fun v4 =>
  obind (rLd1 v4 h) fun v5 =>
  obind (pLenS v5) fun v6 =>
  obind (pConv .u32 v6) fun v7 =>
  obind (pLss (Tr.get .bad q1 fr) v7) fun v8 =>
  forceG v8 fun v => Tr.setK .bad v q25 fr fun f25 =>
  k f25 h)
 (.cond 25 q25 (.seq (.reg fun call fr h k =>
  obind (pNilck (Tr.get .bad q0 fr)) fun v0 =>
  obind (pFa 0 v0) fun v1 =>
  obind (rLd1 v1 h) fun v2 =>
  call q40 [v2, (Tr.get .bad q1 fr), (Tr.get .bad q2 fr)] h fun v3 h4 =>
  obind (pExt 0 v3) fun v4 =>
  obind (pExt 1 v3) fun v5 =>
  forceG v4 fun v => Tr.setK .bad v q8 fr fun f8 =>
  forceG v5 fun v => Tr.setK .bad v q9 f8 fun f9 =>
  k f9 h4)
 .ret)
 .skip))
 (.seq (.reg fun call fr h k =>
  call q41 [(Tr.get .bad q1 fr), (Tr.get .bad q2 fr)] h fun v0 h1 =>
  obind (pExt 0 v0) fun v1 =>
  obind (pExt 1 v0) fun v2 =>
  obind (pExt 2 v0) fun v3 =>
  forceG v1 fun v => Tr.setK .bad v q10 fr fun f10 =>
  forceG v2 fun v => Tr.setK .bad v q11 f10 fun f11 =>
  forceG v3 fun v => Tr.setK .bad v q12 f11 fun f12 =>
  k f12 h1)
 (.seq (.seq (.reg fun _ fr h k =>
  obind (pNot (Tr.get .bad q12 fr)) fun v0 =>
  forceG v0 fun v => Tr.setK .bad v q43 fr fun f43 =>
  k f43 h)
 (.cond 43 q43 (.seq (.reg fun _ fr h k =>
  forceG (.int .u32 (.ofNat 0)) fun v => Tr.setK .bad v q8 fr fun f8 =>
  forceG (.bool false) fun v => Tr.setK .bad v q9 f8 fun f9 =>
  k f9 h)
 .ret)
 .skip))
 (.seq (.reg fun call fr h k =>
  call q42 [(Tr.get .bad q0 fr), (Tr.get .bad q10 fr), (Tr.get .bad q11 fr), (Tr.get .bad q3 fr)] h fun v0 h1 =>
  obind (pExt 0 v0) fun v1 =>
  obind (pExt 1 v0) fun v2 =>
  forceG v1 fun v => Tr.setK .bad v q13 fr fun f13 =>
  forceG v2 fun v => Tr.setK .bad v q14 f13 fun f14 =>
  k f14 h1)
 (.seq (.reg fun call fr h k =>
  call q43 [(Tr.get .bad q0 fr)] h fun _ h1 =>
  k fr h1)
 (.seq (.reg fun _ fr h k =>
  forceG (Tr.get .bad q13 fr) fun v => Tr.setK .bad v q8 fr fun f8 =>
  forceG (Tr.get .bad q14 fr) fun v => Tr.setK .bad v q9 f8 fun f9 =>
  k f9 h)
 .ret))))))), resF [.t 8, .t 9]⟩
theorem g11_ok : Comp Tryz.prog Tryz.f11 4 [8, 9, 10, 11, 12, 13, 14, 25, 43] g11 := ⟨_, [.t 8, .t 9], rfl, by kernel_rfl, by decide, by kernel_rfl, by kernel_rfl, rfl, rfl⟩
/-- (*pianola/bus.Bus).Store -/
def g12 : GFunc := ⟨5, (.seq (.reg fun _ fr h k =>
  forceG (.bool false) fun v => Tr.setK .bad v q10 fr fun f10 =>
  k f10 h)
 (.seq (.seq (.reg fun call fr h k =>
  obind (pNilck (Tr.get .bad q0 fr)) fun v0 =>
  obind (pFa 0 v0) fun v1 =>
  obind (rLd1 v1 h) fun v2 =>
  call q30 [v2] h fun v3 h4 =>
  obind (pLss (Tr.get .bad q1 fr) v3) fun v4 =>
  forceG v4 fun v => Tr.setK .bad v q20 fr fun f20 =>
  k f20 h4)
 (.cond 20 q20 (.seq (.reg fun call fr h k =>
  obind (pNilck (Tr.get .bad q0 fr)) fun v0 =>
  obind (pFa 0 v0) fun v1 =>
  obind (rLd1 v1 h) fun v2 =>
  call q25 [v2, (Tr.get .bad q1 fr), (Tr.get .bad q2 fr), (Tr.get .bad q3 fr)] h fun v3 h4 =>
  forceG v3 fun v => Tr.setK .bad v q10 fr fun f10 =>
  k f10 h4)
 .ret)
 .skip))
 (.seq (.reg fun call fr h k =>
  call q37 [(Tr.get .bad q1 fr), (Tr.get .bad q2 fr)] h fun v0 h1 =>
  obind (pExt 0 v0) fun v1 =>
  obind (pExt 1 v0) fun v2 =>
  obind (pExt 2 v0) fun v3 =>
  forceG v1 fun v => Tr.setK .bad v q11 fr fun f11 =>
  forceG v2 fun v => Tr.setK .bad v q12 f11 fun f12 =>
  forceG v3 fun v => Tr.setK .bad v q13 f12 fun f13 =>
  k f13 h1)
 (.seq (.seq (.reg fun _ fr h k =>
  obind (pNot (Tr.get .bad q13 fr)) fun v0 =>
  forceG v0 fun v => Tr.setK .bad v q37 fr fun f37 =>
  k f37 h)
 (.cond 37 q37 (.seq (.reg fun _ fr h k =>
  forceG (.bool false) fun v => Tr.setK .bad v q10 fr fun f10 =>
  k f10 h)
 .ret)
 .skip))
 (.seq (.reg fun call fr h k =>
  call q44 [(Tr.get .bad q0 fr), (Tr.get .bad q11 fr), (Tr.get .bad q12 fr), (Tr.get .bad q3 fr), (Tr.get .bad q4 fr)] h fun v0 h1 =>
  forceG v0 fun v => Tr.setK .bad v q13 fr fun f13 =>
  k f13 h1)
 (.seq (.reg fun call fr h k =>
  call q39 [(Tr.get .bad q0 fr)] h fun _ h1 =>
  k fr h1)
 (.seq (.reg fun _ fr h k =>
  forceG (Tr.get .bad q13 fr) fun v => Tr.setK .bad v q10 fr fun f10 =>
  k f10 h)
 .ret))))))), resF [.t 10]⟩
theorem g12_ok : Comp Tryz.prog Tryz.f12 5 [10, 11, 12, 13, 20, 37] g12 := ⟨_, [.t 10], rfl, by kernel_rfl, by decide, by kernel_rfl, by kernel_rfl, rfl, rfl⟩
/-- (*pianola/pianolaref15.Bus).Store -/
def g13 : GFunc := ⟨5, (.seq (.reg fun _ fr h k =>
  forceG (.bool false) fun v => Tr.setK .bad v q10 fr fun f10 =>
  k f10 h)
 (.seq (.seq (.reg fun _ fr h k =>
  obind (pNilck (Tr.get .bad q0 fr)) fun v0 =>
  obind (pFa 0 v0) fun v1 =>
  obind (rLd1 v1 h) fun v2 =>
  obind (pNilck v2) fun v3 =>
  obind (pFa 0 v3) fun v4 =>
  obind (rLd1 v4 h) fun v5 =>
  obind (pLenS v5) fun v6 =>
  obind (pConv .u32 v6) fun v7 =>
  obind (pLss (Tr.get .bad q1 fr) v7) fun v8 =>
  forceG v8 fun v => Tr.setK .bad v q25 fr fun f25 =>
  k f25 h)
 (.cond 25 q25 (.seq (.reg fun call fr h k =>
  obind (pNilck (Tr.get .bad q0 fr)) fun v0 =>
  obind (pFa 0 v0) fun v1 =>
  obind (rLd1 v1 h) fun v2 =>
  call q45 [v2, (Tr.get .bad q1 fr), (Tr.get .bad q2 fr), (Tr.get .bad q3 fr)] h fun v3 h4 =>
  forceG v3 fun v => Tr.setK .bad v q10 fr fun f10 =>
  k f10 h4)
 .ret)
 .skip))
 (.seq (.reg fun call fr h k =>
  call q41 [(Tr.get .bad q1 fr), (Tr.get .bad q2 fr)] h fun v0 h1 =>
  obind (pExt 0 v0) fun v1 =>
  obind (pExt 1 v0) fun v2 =>
  obind (pExt 2 v0) fun v3 =>
  forceG v1 fun v => Tr.setK .bad v q11 fr fun f11 =>
  forceG v2 fun v => Tr.setK .bad v q12 f11 fun f12 =>
  forceG v3 fun v => Tr.setK .bad v q13 f12 fun f13 =>
  k f13 h1)
 (.seq (.seq (.reg fun _ fr h k =>
  obind (pNot (Tr.get .bad q13 fr)) fun v0 =>
  forceG v0 fun v => Tr.setK .bad v q42 fr fun f42 =>
  k f42 h)
 (.cond 42 q42 (.seq (.reg fun _ fr h k =>
  forceG (.bool false) fun v => Tr.setK .bad v q10 fr fun f10 =>
  k f10 h)
 .ret)
 .skip))
 (.seq (.reg fun call fr h k =>
  call q46 [(Tr.get .bad q0 fr), (Tr.get .bad q11 fr), (Tr.get .bad q12 fr), (Tr.get .bad q3 fr), (Tr.get .bad q4 fr)] h fun v0 h1 =>
  forceG v0 fun v => Tr.setK .bad v q14 fr fun f14 =>
  k f14 h1)
 (.seq (.reg fun call fr h k =>
  call q43 [(Tr.get .bad q0 fr)] h fun _ h1 =>
  k fr h1)
 (.seq (.reg fun _ fr h k =>
  forceG (Tr.get .bad q14 fr) fun v => Tr.setK .bad v q10 fr fun f10 =>
  k f10 h)
 .ret))))))), resF [.t 10]⟩
theorem g13_ok : Comp Tryz.prog Tryz.f13 5 [10, 11, 12, 13, 14, 25, 42] g13 := ⟨_, [.t 10], rfl, by kernel_rfl, by decide, by kernel_rfl, by kernel_rfl, rfl, rfl⟩
/-- pianola/pianolalaw15.same -/
def g14 : GFunc := ⟨2, (.seq (.reg fun _ fr h k =>
  forceG (.bool false) fun v => Tr.setK .bad v q4 fr fun f4 =>
  k f4 h)
 (.seq (.reg fun call fr h k =>
  call q47 [(Tr.get .bad q0 fr)] h fun v0 h1 =>
  obind (pExt 0 v0) fun v1 =>
  obind (pExt 1 v0) fun v2 =>
  forceG v1 fun v => Tr.setK .bad v q5 fr fun f5 =>
  forceG v2 fun v => Tr.setK .bad v q6 f5 fun f6 =>
  k f6 h1)
 (.seq (.reg fun call fr h k =>
  call q48 [(Tr.get .bad q1 fr)] h fun v0 h1 =>
  obind (pExt 0 v0) fun v1 =>
  obind (pExt 1 v0) fun v2 =>
  forceG v1 fun v => Tr.setK .bad v q7 fr fun f7 =>
  forceG v2 fun v => Tr.setK .bad v q8 f7 fun f8 =>
  k f8 h1)
 (.seq (.reg fun call fr h k =>
  call q49 [(Tr.get .bad q0 fr)] h fun v0 h1 =>
  call q50 [(Tr.get .bad q1 fr)] h1 fun v1 h2 =>
  obind (pEqlB v0 v1) fun v2 =>
  guardC v2 true h2 (fun k => k (Tr.get .bad q5 fr) h2) fun v3 h4 =>
  guardC v2 true h4 (fun k => k (Tr.get .bad q7 fr) h4) fun v4 h5 =>
  guardC v2 true h5 (fun k => obind (pEql v3 v4) fun v => k v h5) fun v5 h6 =>
  obind (pPick v2 v5 (.bool false)) fun v6 =>
  guardC v6 true h6 (fun k => k (Tr.get .bad q6 fr) h6) fun v7 h8 =>
  guardC v6 true h8 (fun k => k (Tr.get .bad q8 fr) h8) fun v8 h9 =>
  guardC v6 true h9 (fun k => obind (pEqlB v7 v8) fun v => k v h9) fun v9 h10 =>
  obind (pPick v6 v9 (.bool false)) fun v10 =>
  guardC v10 true h10 (fun k => k (Tr.get .bad q0 fr) h10) fun v11 h12 =>
  guardC v10 true h12 (fun k => call q52 [v11] h12 k) fun v12 h13 =>
  guardC v10 true h13 (fun k => k (Tr.get .bad q1 fr) h13) fun v13 h14 =>
  guardC v10 true h14 (fun k => obind (pNilck v13) fun v => k v h14) fun v14 h15 =>
  guardC v10 true h15 (fun k => obind (pFa 1 v14) fun v => k v h15) fun v15 h16 =>
  guardC v10 true h16 (fun k => obind (pFa 0 v15) fun v => k v h16) fun v16 h17 =>
  guardC v10 true h17 (fun k => obind (rLd1 v16 h17) fun v => k v h17) fun v17 h18 =>
  guardC v10 true h18 (fun k => call q51 [v12, v17] h18 k) fun v18 h19 =>
  obind (pPick v10 v18 (.bool false)) fun v19 =>
  guardC v19 true h19 (fun k => k (Tr.get .bad q0 fr) h19) fun v20 h21 =>
  guardC v19 true h21 (fun k => call q53 [v20] h21 k) fun v21 h22 =>
  guardC v19 true h22 (fun k => obind (rStr v21 h22) fun v => k v h22) fun v22 h23 =>
  guardC v19 true h23 (fun k => k (Tr.get .bad q1 fr) h23) fun v23 h24 =>
  guardC v19 true h24 (fun k => obind (pNilck v23) fun v => k v h24) fun v24 h25 =>
  guardC v19 true h25 (fun k => obind (pFa 9 v24) fun v => k v h25) fun v25 h26 =>
  guardC v19 true h26 (fun k => obind (pFa 4 v25) fun v => k v h26) fun v26 h27 =>
  guardC v19 true h27 (fun k => obind (rLd1 v26 h27) fun v => k v h27) fun v27 h28 =>
  guardC v19 true h28 (fun k => obind (rStr v27 h28) fun v => k v h28) fun v28 h29 =>
  guardC v19 true h29 (fun k => obind (pEql v22 v28) fun v => k v h29) fun v29 h30 =>
  obind (pPick v19 v29 (.bool false)) fun v30 =>
  guardC v30 true h30 (fun k => k (Tr.get .bad q0 fr) h30) fun v31 h32 =>
  guardC v30 true h32 (fun k => call q54 [v31] h32 k) fun v32 h33 =>
  guardC v30 true h33 (fun k => obind (rStr v32 h33) fun v => k v h33) fun v33 h34 =>
  guardC v30 true h34 (fun k => k (Tr.get .bad q1 fr) h34) fun v34 h35 =>
  guardC v30 true h35 (fun k => obind (pNilck v34) fun v => k v h35) fun v35 h36 =>
  guardC v30 true h36 (fun k => obind (pFa 18 v35) fun v => k v h36) fun v36 h37 =>
  guardC v30 true h37 (fun k => obind (pFa 4 v36) fun v => k v h37) fun v37 h38 =>
  guardC v30 true h38 (fun k => obind (rLd1 v37 h38) fun v => k v h38) fun v38 h39 =>
  guardC v30 true h39 (fun k => obind (rStr v38 h39) fun v => k v h39) fun v39 h40 =>
  guardC v30 true h40 (fun k => obind (pEql v33 v39) fun v => k v h40) fun v40 h41 =>
  obind (pPick v30 v40 (.bool false)) fun v41 =>
  chk v17 (rLd1 v16 h12) <|
  chk v27 (rLd1 v26 h21) <|
  chk v28 (rStr v27 h21) <|
  chk v38 (rLd1 v37 h32) <|
  chk v39 (rStr v38 h32) <|
  forceG v41 fun v => Tr.setK .bad v q4 fr fun f4 =>
  k f4 h41)
 .ret)))), resF [.t 4]⟩
theorem g14_ok : Comp Tryz.prog Tryz.f14 2 [4, 5, 6, 7, 8] g14 := ⟨_, [.t 4], rfl, by kernel_rfl, by decide, by kernel_rfl, by kernel_rfl, rfl, rfl⟩
/-- (*pianola/bus.Bus).Fire -/
def g15 : GFunc := ⟨2, (.seq (.reg fun _ fr h k =>
  forceG (.int .i64 (.ofNat 0)) fun v => Tr.setK .bad v q4 fr fun f4 =>
  k f4 h)
 (.seq (.reg fun _ fr h k =>
  forceG (.int .i64 (.ofNat 0)) fun v => Tr.setK .bad v q5 fr fun f5 =>
  k f5 h)
 (.seq .skip
 (.seq (.block 0 (.loop (.seq (.seq (.reg fun _ fr h k =>
  obind (pLss (Tr.get .bad q5 fr) (.int .i64 (.ofNat 256))) fun v0 =>
  forceG v0 fun v => Tr.setK .bad v q9 fr fun f9 =>
  k f9 h)
 (.cond 9 q9 .skip
 (.exit 0)))
 (.block 1 (.seq (.reg fun call fr h k =>
  obind (pNilck (Tr.get .bad q0 fr)) fun v0 =>
  obind (pFa 1 v0) fun v1 =>
  obind (rLd1 v1 h) fun v2 =>
  call q55 [v2, (Tr.get .bad q1 fr)] h fun v3 h4 =>
  obind (pExt 0 v3) fun v4 =>
  obind (pExt 1 v3) fun v5 =>
  obind2 (nAlloc [.int .i64 (.ofNat 0), .int .i64 (.ofNat 0), .int .i64 (.ofNat 0)] h4) fun v6 h7 =>
  obind (wStN 3 v6 v4 h7) fun h8 =>
  forceG v6 fun v => Tr.setK .bad v q6 fr fun f6 =>
  forceG v5 fun v => Tr.setK .bad v q7 f6 fun f7 =>
  k f7 h8)
 (.seq (.seq (.reg fun _ fr h k =>
  obind (pNot (Tr.get .bad q7 fr)) fun v0 =>
  forceG v0 fun v => Tr.setK .bad v q20 fr fun f20 =>
  k f20 h)
 (.cond 20 q20 (.exit 0)
 .skip))
 (.seq (.reg fun call fr h k =>
  obind (rLdN 3 (Tr.get .bad q6 fr) h) fun v0 =>
  call q56 [(Tr.get .bad q0 fr), v0] h fun _ h2 =>
  k fr h2)
 (.reg fun _ fr h k =>
  obind (pAdd (Tr.get .bad q5 fr) (.int .i64 (.ofNat 1))) fun v0 =>
  forceG v0 fun v => Tr.setK .bad v q5 fr fun f5 =>
  k f5 h))))))))
 (.seq (.reg fun call fr h k =>
  call q39 [(Tr.get .bad q0 fr)] h fun _ h1 =>
  k fr h1)
 (.seq (.reg fun _ fr h k =>
  forceG (Tr.get .bad q5 fr) fun v => Tr.setK .bad v q4 fr fun f4 =>
  k f4 h)
 .ret)))))), resF [.t 4]⟩
theorem g15_ok : Comp Tryz.prog Tryz.f15 2 [4, 5, 6, 7, 9, 20] g15 := ⟨_, [.t 4], rfl, by kernel_rfl, by decide, by kernel_rfl, by kernel_rfl, rfl, rfl⟩
/-- (*pianola/pianolaref15.Bus).Fire -/
def g16 : GFunc := ⟨2, (.seq (.reg fun _ fr h k =>
  forceG (.int .i64 (.ofNat 0)) fun v => Tr.setK .bad v q4 fr fun f4 =>
  k f4 h)
 (.seq (.reg fun _ fr h k =>
  forceG (.int .i64 (.ofNat 0)) fun v => Tr.setK .bad v q5 fr fun f5 =>
  k f5 h)
 (.seq (.block 0 (.loop (.seq (.seq (.reg fun _ fr h k =>
  obind (pLss (Tr.get .bad q5 fr) (.int .i64 (.ofNat 256))) fun v0 =>
  forceG v0 fun v => Tr.setK .bad v q9 fr fun f9 =>
  k f9 h)
 (.cond 9 q9 .skip
 (.exit 0)))
 (.block 1 (.seq (.reg fun call fr h k =>
  obind (pNilck (Tr.get .bad q0 fr)) fun v0 =>
  obind (pFa 1 v0) fun v1 =>
  call q57 [v1, (Tr.get .bad q1 fr)] h fun v2 h3 =>
  obind (pExt 0 v2) fun v3 =>
  obind (pExt 1 v2) fun v4 =>
  obind2 (nAlloc [.int .i64 (.ofNat 0), .int .i64 (.ofNat 0), .int .i64 (.ofNat 0)] h3) fun v5 h6 =>
  obind (wStN 3 v5 v3 h6) fun h7 =>
  forceG v5 fun v => Tr.setK .bad v q6 fr fun f6 =>
  forceG v4 fun v => Tr.setK .bad v q7 f6 fun f7 =>
  k f7 h7)
 (.seq (.seq (.reg fun _ fr h k =>
  obind (pNot (Tr.get .bad q7 fr)) fun v0 =>
  forceG v0 fun v => Tr.setK .bad v q19 fr fun f19 =>
  k f19 h)
 (.cond 19 q19 (.exit 0)
 .skip))
 (.seq (.reg fun call fr h k =>
  obind (rLdN 3 (Tr.get .bad q6 fr) h) fun v0 =>
  call q58 [(Tr.get .bad q0 fr), v0] h fun _ h2 =>
  k fr h2)
 (.reg fun _ fr h k =>
  obind (pAdd (Tr.get .bad q5 fr) (.int .i64 (.ofNat 1))) fun v0 =>
  forceG v0 fun v => Tr.setK .bad v q5 fr fun f5 =>
  k f5 h))))))))
 (.seq (.reg fun call fr h k =>
  call q43 [(Tr.get .bad q0 fr)] h fun _ h1 =>
  k fr h1)
 (.seq (.reg fun _ fr h k =>
  forceG (Tr.get .bad q5 fr) fun v => Tr.setK .bad v q4 fr fun f4 =>
  k f4 h)
 .ret))))), resF [.t 4]⟩
theorem g16_ok : Comp Tryz.prog Tryz.f16 2 [4, 5, 6, 7, 9, 19] g16 := ⟨_, [.t 4], rfl, by kernel_rfl, by decide, by kernel_rfl, by kernel_rfl, rfl, rfl⟩
/-- pianola/pianolalaw15.known -/
def g17 : GFunc := ⟨0, (.seq (.reg fun _ fr h k =>
  forceG (.bool false) fun v => Tr.setK .bad v q0 fr fun f0 =>
  k f0 h)
 (.seq (.reg fun call fr h k =>
  obind2 (nBuildS (rep [.int .u8 (.ofNat 0)] 4) 4 1 (some (.u8, 8)) [(0, 1, (.int .u8 (.ofNat 1))), (1, 1, (.int .u8 (.ofNat 2))), (2, 1, (.int .u8 (.ofNat 3))), (3, 1, (.int .u8 (.ofNat 4)))] h) fun v0 h1 =>
  call q8 [(.int .i64 (.ofNat 1)), v0, .nils] h1 fun v1 h2 =>
  forceG v1 fun v => Tr.setK .bad v q1 fr fun f1 =>
  k f1 h2)
 (.seq (.seq (.reg fun _ fr h k =>
  obind (pEqlN 0 (Tr.get .bad q1 fr) .nilp) fun v0 =>
  forceG v0 fun v => Tr.setK .bad v q11 fr fun f11 =>
  k f11 h)
 (.cond 11 q11 (.seq (.reg fun _ fr h k =>
  forceG (.bool false) fun v => Tr.setK .bad v q0 fr fun f0 =>
  k f0 h)
 .ret)
 .skip))
 (.seq (.reg fun call fr h k =>
  call q10 [(Tr.get .bad q1 fr), (.int .u32 (.ofNat 0)), (.int .i64 (.ofNat 4)), (.int .i64 (.ofNat 0))] h fun v0 h1 =>
  obind (pExt 0 v0) fun v1 =>
  obind (pExt 1 v0) fun v2 =>
  forceG v1 fun v => Tr.setK .bad v q2 fr fun f2 =>
  forceG v2 fun v => Tr.setK .bad v q3 f2 fun f3 =>
  k f3 h1)
 (.seq (.reg fun call fr h k =>
  call q10 [(Tr.get .bad q1 fr), (.int .u32 (.ofNat 520093696)), (.int .i64 (.ofNat 4)), (.int .i64 (.ofNat 0))] h fun v0 h1 =>
  obind (pExt 0 v0) fun v1 =>
  obind (pExt 1 v0) fun v2 =>
  forceG v1 fun v => Tr.setK .bad v q4 fr fun f4 =>
  forceG v2 fun v => Tr.setK .bad v q5 f4 fun f5 =>
  k f5 h1)
 (.seq (.reg fun call fr h k =>
  call q10 [(Tr.get .bad q1 fr), (.int .u32 (.ofNat 520093697)), (.int .i64 (.ofNat 1)), (.int .i64 (.ofNat 0))] h fun v0 h1 =>
  obind (pExt 0 v0) fun _ =>
  obind (pExt 1 v0) fun v2 =>
  forceG v2 fun v => Tr.setK .bad v q7 fr fun f7 =>
  k f7 h1)
 (.seq (.reg fun call fr h k =>
  obind (pEql (Tr.get .bad q2 fr) (.int .u32 (.ofNat 16909060))) fun v0 =>
  guardC v0 true h (fun k => k (Tr.get .bad q3 fr) h) fun v1 h2 =>
  obind (pPick v0 v1 (.bool false)) fun v2 =>
  guardC v2 true h2 (fun k => k (Tr.get .bad q4 fr) h2) fun v3 h4 =>
  guardC v2 true h4 (fun k => obind (pEql v3 (.int .u32 (.ofNat 0))) fun v => k v h4) fun v4 h5 =>
  obind (pPick v2 v4 (.bool false)) fun v5 =>
  guardC v5 true h5 (fun k => k (Tr.get .bad q5 fr) h5) fun v6 h7 =>
  obind (pPick v5 v6 (.bool false)) fun v7 =>
  guardC v7 true h7 (fun k => k (Tr.get .bad q7 fr) h7) fun v8 h9 =>
  guardC v7 true h9 (fun k => obind (pNot v8) fun v => k v h9) fun v9 h10 =>
  obind (pPick v7 v9 (.bool false)) fun v10 =>
  guardC v10 true h10 (fun k => k (Tr.get .bad q1 fr) h10) fun v11 h12 =>
  guardC v10 true h12 (fun k => call q12 [v11, (.int .u32 (.ofNat 4294967292)), (.int .i64 (.ofNat 4)), (.int .u32 (.ofNat 1)), (.int .i64 (.ofNat 0))] h12 k) fun v12 h13 =>
  guardC v10 true h13 (fun k => obind (pNot v12) fun v => k v h13) fun v13 h14 =>
  obind (pPick v10 v13 (.bool false)) fun v14 =>
  guardC v14 true h14 (fun k => k (Tr.get .bad q1 fr) h14) fun v15 h16 =>
  guardC v14 true h16 (fun k => call q59 [v15] h16 k) fun v16 h17 =>
  guardC v14 true h17 (fun k => obind (pNeqN 0 v16 .nilp) fun v => k v h17) fun v17 h18 =>
  obind (pPick v14 v17 (.bool false)) fun v18 =>
  guardC v18 true h18 (fun k => k (Tr.get .bad q1 fr) h18) fun v19 h20 =>
  guardC v18 true h20 (fun k => call q59 [v19] h20 k) fun v20 h21 =>
  guardC v18 true h21 (fun k => call q30 [v20] h21 k) fun v21 h22 =>
  guardC v18 true h22 (fun k => obind (pEql v21 (.int .u32 (.ofNat 1024))) fun v => k v h22) fun v22 h23 =>
  obind (pPick v18 v22 (.bool false)) fun v23 =>
  forceG v23 fun v => Tr.setK .bad v q0 fr fun f0 =>
  k f0 h23)
 .ret))))))), resF [.t 0]⟩
theorem g17_ok : Comp Tryz.prog Tryz.f17 0 [0, 1, 2, 3, 4, 5, 7, 11] g17 := ⟨_, [.t 0], rfl, by kernel_rfl, by decide, by kernel_rfl, by kernel_rfl, rfl, rfl⟩
/-- (*pianola/ram.Ram).Load -/
def g24 : GFunc := ⟨3, (.seq (.reg fun _ fr h k =>
  forceG (.int .u32 (.ofNat 0)) fun v => Tr.setK .bad v q6 fr fun f6 =>
  forceG (.bool false) fun v => Tr.setK .bad v q7 f6 fun f7 =>
  k f7 h)
 (.seq (.seq (.reg fun call fr h k =>
  call q75 [(Tr.get .bad q0 fr), (Tr.get .bad q1 fr), (Tr.get .bad q2 fr)] h fun v0 h1 =>
  obind (pNot v0) fun v1 =>
  forceG v1 fun v => Tr.setK .bad v q15 fr fun f15 =>
  k f15 h1)
 (.cond 15 q15 (.seq (.reg fun _ fr h k =>
  forceG (.int .u32 (.ofNat 0)) fun v => Tr.setK .bad v q6 fr fun f6 =>
  forceG (.bool false) fun v => Tr.setK .bad v q7 f6 fun f7 =>
  k f7 h)
 .ret)
 .skip))
 (.seq (.reg fun _ fr h k =>
  forceG (.int .u32 (.ofNat 0)) fun v => Tr.setK .bad v q8 fr fun f8 =>
  k f8 h)
 (.seq (.seq (.reg fun _ fr h k =>
  obind (pNilck (Tr.get .bad q0 fr)) fun v0 =>
  obind (pFa 0 v0) fun v1 =>
  obind (rLd1 v1 h) fun v2 =>
  obind (pConv .i64 (Tr.get .bad q1 fr)) fun v3 =>
  obind (pAdd v3 (Tr.get .bad q2 fr)) fun v4 =>
  obind (pSlS 1 (some (Tr.get .bad q1 fr)) (some v4) none v2) fun v5 =>
  obind (pLenS v5) fun v6 =>
  forceG v5 fun v => Tr.setK .bad v q25 fr fun f25 =>
  forceG v6 fun v => Tr.setK .bad v q26 f25 fun f26 =>
  forceG (.int .i64 (.ofNat 0)) fun v => Tr.setK .bad v q27 f26 fun f27 =>
  k f27 h)
 (.block 0 (.loop (.seq (.reg fun _ fr h k =>
  obind (pLss (Tr.get .bad q27 fr) (Tr.get .bad q26 fr)) fun v0 =>
  forceG v0 fun v => Tr.setK .bad v q28 fr fun f28 =>
  k f28 h)
 (.seq (.cond 28 q28 .skip
 (.exit 0))
 (.seq (.block 1 (.seq (.reg fun _ fr h k =>
  obind (pIdxS 1 (Tr.get .bad q25 fr) (Tr.get .bad q27 fr)) fun v0 =>
  obind (rLd1 v0 h) fun v1 =>
  forceG v1 fun v => Tr.setK .bad v q10 fr fun f10 =>
  k f10 h)
 (.reg fun _ fr h k =>
  obind (pShl (Tr.get .bad q8 fr) (.int .u64 (.ofNat 8))) fun v0 =>
  obind (pConv .u32 (Tr.get .bad q10 fr)) fun v1 =>
  obind (pOr v0 v1) fun v2 =>
  forceG v2 fun v => Tr.setK .bad v q8 fr fun f8 =>
  k f8 h)))
 (.reg fun _ fr h k =>
  obind (pAdd (Tr.get .bad q27 fr) (.int .i64 (.ofNat 1))) fun v0 =>
  forceG v0 fun v => Tr.setK .bad v q27 fr fun f27 =>
  k f27 h)))))))
 (.seq (.reg fun _ fr h k =>
  forceG (Tr.get .bad q8 fr) fun v => Tr.setK .bad v q6 fr fun f6 =>
  forceG (.bool true) fun v => Tr.setK .bad v q7 f6 fun f7 =>
  k f7 h)
 .ret))))), resF [.t 6, .t 7]⟩
theorem g24_ok : Comp Tryz.prog Tryz.f24 3 [6, 7, 8, 10, 15, 25, 26, 27, 28] g24 := ⟨_, [.t 6, .t 7], rfl, by kernel_rfl, by decide, by kernel_rfl, by kernel_rfl, rfl, rfl⟩
/-- (*pianola/ram.Ram).Store -/
def g25 : GFunc := ⟨4, (.seq (.reg fun _ fr h k =>
  forceG (.bool false) fun v => Tr.setK .bad v q8 fr fun f8 =>
  k f8 h)
 (.seq (.seq (.reg fun call fr h k =>
  call q75 [(Tr.get .bad q0 fr), (Tr.get .bad q1 fr), (Tr.get .bad q2 fr)] h fun v0 h1 =>
  obind (pNot v0) fun v1 =>
  forceG v1 fun v => Tr.setK .bad v q14 fr fun f14 =>
  k f14 h1)
 (.cond 14 q14 (.seq (.reg fun _ fr h k =>
  forceG (.bool false) fun v => Tr.setK .bad v q8 fr fun f8 =>
  k f8 h)
 .ret)
 .skip))
 (.seq (.seq (.reg fun _ fr h k =>
  forceG (Tr.get .bad q2 fr) fun v => Tr.setK .bad v q15 fr fun f15 =>
  forceG (.int .i64 (.ofNat 0)) fun v => Tr.setK .bad v q16 f15 fun f16 =>
  k f16 h)
 (.block 0 (.loop (.seq (.reg fun _ fr h k =>
  obind (pLss (Tr.get .bad q16 fr) (Tr.get .bad q15 fr)) fun v0 =>
  forceG v0 fun v => Tr.setK .bad v q17 fr fun f17 =>
  k f17 h)
 (.seq (.cond 17 q17 .skip
 (.exit 0))
 (.seq (.block 1 (.seq (.reg fun _ fr h k =>
  forceG (Tr.get .bad q16 fr) fun v => Tr.setK .bad v q9 fr fun f9 =>
  k f9 h)
 (.reg fun _ fr h k =>
  obind (pNilck (Tr.get .bad q0 fr)) fun v0 =>
  obind (pFa 0 v0) fun v1 =>
  obind (rLd1 v1 h) fun v2 =>
  obind (pConv .i64 (Tr.get .bad q1 fr)) fun v3 =>
  obind (pAdd v3 (Tr.get .bad q2 fr)) fun v4 =>
  obind (pSub v4 (.int .i64 (.ofNat 1))) fun v5 =>
  obind (pSub v5 (Tr.get .bad q9 fr)) fun v6 =>
  obind (pMul (.int .i64 (.ofNat 8)) (Tr.get .bad q9 fr)) fun v7 =>
  obind (pShr (Tr.get .bad q3 fr) v7) fun v8 =>
  obind (pConv .u8 v8) fun v9 =>
  obind (pIdxS 1 v2 v6) fun v10 =>
  obind (wSt1 v10 v9 h) fun h12 =>
  k fr h12)))
 (.reg fun _ fr h k =>
  obind (pAdd (Tr.get .bad q16 fr) (.int .i64 (.ofNat 1))) fun v0 =>
  forceG v0 fun v => Tr.setK .bad v q16 fr fun f16 =>
  k f16 h)))))))
 (.seq (.reg fun call fr h k =>
  call q76 [(Tr.get .bad q0 fr), (Tr.get .bad q1 fr), (Tr.get .bad q2 fr)] h fun _ h1 =>
  k fr h1)
 (.seq (.reg fun _ fr h k =>
  forceG (.bool true) fun v => Tr.setK .bad v q8 fr fun f8 =>
  k f8 h)
 .ret))))), resF [.t 8]⟩
theorem g25_ok : Comp Tryz.prog Tryz.f25 4 [8, 9, 14, 15, 16, 17] g25 := ⟨_, [.t 8], rfl, by kernel_rfl, by decide, by kernel_rfl, by kernel_rfl, rfl, rfl⟩
/-- pianola/ram.New -/
def g27 : GFunc := ⟨1, (.seq (.reg fun _ fr h k =>
  forceG .nilp fun v => Tr.setK .bad v q2 fr fun f2 =>
  k f2 h)
 (.seq (.reg fun _ fr h k =>
  obind (pMin (Tr.get .bad q0 fr) (.int .i64 (.ofNat 64))) fun v0 =>
  obind (pMax (.int .i64 (.ofNat 1)) v0) fun v1 =>
  forceG v1 fun v => Tr.setK .bad v q3 fr fun f3 =>
  k f3 h)
 (.seq (.reg fun _ fr h k =>
  obind (pMul (Tr.get .bad q3 fr) (.int .i64 (.ofNat 1024))) fun v0 =>
  obind2 (nMakeS [.int .u8 (.ofNat 0)] 1 1 (some (.u8, 8)) v0 v0 h) fun v1 h2 =>
  obind2 (nMakeS [.bool false] 1 1 none (Tr.get .bad q3 fr) (Tr.get .bad q3 fr) h2) fun v2 h3 =>
  obind2 (nMakeS [.bool false] 1 1 none (Tr.get .bad q3 fr) (Tr.get .bad q3 fr) h3) fun v3 h4 =>
  obind (pBuild [.nils, .nils, .nils] [(0, 1, v1), (1, 1, v2), (2, 1, v3)]) fun v4 =>
  obind2 (nBox v4 h4) fun v5 h6 =>
  forceG v5 fun v => Tr.setK .bad v q2 fr fun f2 =>
  k f2 h6)
 .ret))), resF [.t 2]⟩
theorem g27_ok : Comp Tryz.prog Tryz.f27 1 [2, 3] g27 := ⟨_, [.t 2], rfl, by kernel_rfl, by decide, by kernel_rfl, by kernel_rfl, rfl, rfl⟩
/-- pianola/wheel.New -/
def g28 : GFunc := ⟨0, (.seq (.reg fun _ fr h k =>
  forceG .nilp fun v => Tr.setK .bad v q0 fr fun f0 =>
  k f0 h)
 (.seq (.reg fun _ fr h k =>
  obind (pBuild [.nils, .int .i64 (.ofNat 0)] []) fun v0 =>
  obind2 (nBox v0 h) fun v1 h2 =>
  forceG v1 fun v => Tr.setK .bad v q0 fr fun f0 =>
  k f0 h2)
 .ret)), resF [.t 0]⟩
theorem g28_ok : Comp Tryz.prog Tryz.f28 0 [0] g28 := ⟨_, [.t 0], rfl, by kernel_rfl, by decide, by kernel_rfl, by kernel_rfl, rfl, rfl⟩
/-- (*pianola/ram.Ram).Put -/
def g29 : GFunc := ⟨3, (.seq (.reg fun _ fr h k =>
  forceG (.bool false) fun v => Tr.setK .bad v q6 fr fun f6 =>
  k f6 h)
 (.seq (.seq (.reg fun call fr h k =>
  obind (pLenS (Tr.get .bad q2 fr)) fun v0 =>
  call q77 [(Tr.get .bad q0 fr), (Tr.get .bad q1 fr), v0] h fun v1 h2 =>
  obind (pNot v1) fun v2 =>
  forceG v2 fun v => Tr.setK .bad v q12 fr fun f12 =>
  k f12 h2)
 (.cond 12 q12 (.seq (.reg fun _ fr h k =>
  forceG (.bool false) fun v => Tr.setK .bad v q6 fr fun f6 =>
  k f6 h)
 .ret)
 .skip))
 (.seq (.reg fun _ fr h k =>
  obind (pNilck (Tr.get .bad q0 fr)) fun v0 =>
  obind (pFa 0 v0) fun v1 =>
  obind (rLd1 v1 h) fun v2 =>
  obind (pSlS 1 (some (Tr.get .bad q1 fr)) none none v2) fun v3 =>
  obind2 (nCopy 1 v3 (Tr.get .bad q2 fr) h) fun _ h5 =>
  k fr h5)
 (.seq (.reg fun call fr h k =>
  obind (pLenS (Tr.get .bad q2 fr)) fun v0 =>
  call q76 [(Tr.get .bad q0 fr), (Tr.get .bad q1 fr), v0] h fun _ h2 =>
  k fr h2)
 (.seq (.reg fun _ fr h k =>
  forceG (.bool true) fun v => Tr.setK .bad v q6 fr fun f6 =>
  k f6 h)
 .ret))))), resF [.t 6]⟩
theorem g29_ok : Comp Tryz.prog Tryz.f29 3 [6, 12] g29 := ⟨_, [.t 6], rfl, by kernel_rfl, by decide, by kernel_rfl, by kernel_rfl, rfl, rfl⟩
/-- (*pianola/ram.Ram).Size -/
def g30 : GFunc := ⟨1, (.seq (.reg fun _ fr h k =>
  forceG (.int .u32 (.ofNat 0)) fun v => Tr.setK .bad v q2 fr fun f2 =>
  k f2 h)
 (.seq (.reg fun _ fr h k =>
  obind (pNilck (Tr.get .bad q0 fr)) fun v0 =>
  obind (pFa 0 v0) fun v1 =>
  obind (rLd1 v1 h) fun v2 =>
  obind (pLenS v2) fun v3 =>
  obind (pConv .u32 v3) fun v4 =>
  forceG v4 fun v => Tr.setK .bad v q2 fr fun f2 =>
  k f2 h)
 .ret)), resF [.t 2]⟩
theorem g30_ok : Comp Tryz.prog Tryz.f30 1 [2] g30 := ⟨_, [.t 2], rfl, by kernel_rfl, by decide, by kernel_rfl, by kernel_rfl, rfl, rfl⟩
/-- pianola/lines.New -/
def g31 : GFunc := ⟨0, (.seq (.reg fun _ fr h k =>
  forceG .nilp fun v => Tr.setK .bad v q0 fr fun f0 =>
  k f0 h)
 (.seq (.reg fun _ fr h k =>
  obind (pBuild [.int .u32 (.ofNat 0), .int .u32 (.ofNat 0)] []) fun v0 =>
  obind2 (nBox v0 h) fun v1 h2 =>
  forceG v1 fun v => Tr.setK .bad v q0 fr fun f0 =>
  k f0 h2)
 .ret)), resF [.t 0]⟩
theorem g31_ok : Comp Tryz.prog Tryz.f31 0 [0] g31 := ⟨_, [.t 0], rfl, by kernel_rfl, by decide, by kernel_rfl, by kernel_rfl, rfl, rfl⟩
/-- pianola/timer.New -/
def g32 : GFunc := ⟨2, (.seq (.reg fun _ fr h k =>
  forceG .nilp fun v => Tr.setK .bad v q4 fr fun f4 =>
  k f4 h)
 (.seq (.seq (.reg fun _ fr h k =>
  obind (pEqlN 0 (Tr.get .bad q1 fr) .nilp) fun v0 =>
  forceG v0 fun v => Tr.setK .bad v q6 fr fun f6 =>
  k f6 h)
 (.cond 6 q6 (.seq (.reg fun _ fr h k =>
  forceG .nilp fun v => Tr.setK .bad v q4 fr fun f4 =>
  k f4 h)
 .ret)
 .skip))
 (.seq (.reg fun _ fr h k =>
  obind (pBuild [.int .i64 (.ofNat 0), .nilp, .int .u32 (.ofNat 0), .int .u32 (.ofNat 0), .int .u32 (.ofNat 0)] [(0, 1, (Tr.get .bad q0 fr)), (1, 1, (Tr.get .bad q1 fr))]) fun v0 =>
  obind2 (nBox v0 h) fun v1 h2 =>
  forceG v1 fun v => Tr.setK .bad v q4 fr fun f4 =>
  k f4 h2)
 .ret))), resF [.t 4]⟩
theorem g32_ok : Comp Tryz.prog Tryz.f32 2 [4, 6] g32 := ⟨_, [.t 4], rfl, by kernel_rfl, by decide, by kernel_rfl, by kernel_rfl, rfl, rfl⟩
/-- pianola/uart.New -/
def g33 : GFunc := ⟨2, (.seq (.reg fun _ fr h k =>
  forceG .nilp fun v => Tr.setK .bad v q4 fr fun f4 =>
  k f4 h)
 (.seq (.seq (.reg fun _ fr h k =>
  obind (pEqlN 0 (Tr.get .bad q1 fr) .nilp) fun v0 =>
  forceG v0 fun v => Tr.setK .bad v q6 fr fun f6 =>
  k f6 h)
 (.cond 6 q6 (.seq (.reg fun _ fr h k =>
  forceG .nilp fun v => Tr.setK .bad v q4 fr fun f4 =>
  k f4 h)
 .ret)
 .skip))
 (.seq (.reg fun _ fr h k =>
  obind2 (nChan (.int .i64 (.ofNat 16)) h) fun v0 h1 =>
  obind2 (nChan (.int .i64 (.ofNat 16)) h1) fun v1 h2 =>
  obind (pBuild [.int .i64 (.ofNat 0), .nilp, .nilc, .nilc, .bool false, .int .u32 (.ofNat 0), .nils] [(0, 1, (Tr.get .bad q0 fr)), (1, 1, (Tr.get .bad q1 fr)), (2, 1, v0), (3, 1, v1)]) fun v2 =>
  obind2 (nBox v2 h2) fun v3 h4 =>
  forceG v3 fun v => Tr.setK .bad v q4 fr fun f4 =>
  k f4 h4)
 .ret))), resF [.t 4]⟩
theorem g33_ok : Comp Tryz.prog Tryz.f33 2 [4, 6] g33 := ⟨_, [.t 4], rfl, by kernel_rfl, by decide, by kernel_rfl, by kernel_rfl, rfl, rfl⟩
/-- pianola/dma.New -/
def g34 : GFunc := ⟨3, (.seq (.reg fun _ fr h k =>
  forceG .nilp fun v => Tr.setK .bad v q6 fr fun f6 =>
  k f6 h)
 (.seq (.seq (.reg fun _ fr h k =>
  obind (pEqlN 0 (Tr.get .bad q1 fr) .nilp) fun v0 =>
  guardC v0 false h (fun k => k (Tr.get .bad q2 fr) h) fun v1 h2 =>
  guardC v0 false h2 (fun k => obind (pEqlN 0 v1 .nilp) fun v => k v h2) fun v2 h3 =>
  obind (pPick v0 (.bool true) v2) fun v3 =>
  forceG v3 fun v => Tr.setK .bad v q12 fr fun f12 =>
  k f12 h3)
 (.cond 12 q12 (.seq (.reg fun _ fr h k =>
  forceG .nilp fun v => Tr.setK .bad v q6 fr fun f6 =>
  k f6 h)
 .ret)
 .skip))
 (.seq (.reg fun _ fr h k =>
  obind (pBuild [.int .i64 (.ofNat 0), .nilp, .nilp, .int .u32 (.ofNat 0), .int .u32 (.ofNat 0), .int .u32 (.ofNat 0), .int .u32 (.ofNat 0)] [(0, 1, (Tr.get .bad q0 fr)), (1, 1, (Tr.get .bad q1 fr)), (2, 1, (Tr.get .bad q2 fr))]) fun v0 =>
  obind2 (nBox v0 h) fun v1 h2 =>
  forceG v1 fun v => Tr.setK .bad v q6 fr fun f6 =>
  k f6 h2)
 .ret))), resF [.t 6]⟩
theorem g34_ok : Comp Tryz.prog Tryz.f34 3 [6, 12] g34 := ⟨_, [.t 6], rfl, by kernel_rfl, by decide, by kernel_rfl, by kernel_rfl, rfl, rfl⟩
/-- pianola/disk.New -/
def g35 : GFunc := ⟨4, (.seq (.reg fun _ fr h k =>
  forceG .nilp fun v => Tr.setK .bad v q8 fr fun f8 =>
  k f8 h)
 (.seq (.seq (.reg fun _ fr h k =>
  obind (pEqlN 0 (Tr.get .bad q1 fr) .nilp) fun v0 =>
  guardC v0 false h (fun k => k (Tr.get .bad q2 fr) h) fun v1 h2 =>
  guardC v0 false h2 (fun k => obind (pEqlN 0 v1 .nilp) fun v => k v h2) fun v2 h3 =>
  obind (pPick v0 (.bool true) v2) fun v3 =>
  forceG v3 fun v => Tr.setK .bad v q16 fr fun f16 =>
  k f16 h3)
 (.cond 16 q16 (.seq (.reg fun _ fr h k =>
  forceG .nilp fun v => Tr.setK .bad v q8 fr fun f8 =>
  k f8 h)
 .ret)
 .skip))
 (.seq (.reg fun _ fr h k =>
  obind (pLenS (Tr.get .bad q3 fr)) fun v0 =>
  obind (pAdd v0 (.int .i64 (.ofNat 64))) fun v1 =>
  obind (pSub v1 (.int .i64 (.ofNat 1))) fun v2 =>
  obind (pQuo v2 (.int .i64 (.ofNat 64))) fun v3 =>
  obind (pMin v3 (.int .i64 (.ofNat 64))) fun v4 =>
  forceG v4 fun v => Tr.setK .bad v q9 fr fun f9 =>
  k f9 h)
 (.seq (.reg fun _ fr h k =>
  obind (pMul (Tr.get .bad q9 fr) (.int .i64 (.ofNat 64))) fun v0 =>
  obind2 (nMakeS [.int .u8 (.ofNat 0)] 1 1 (some (.u8, 8)) v0 v0 h) fun v1 h2 =>
  forceG v1 fun v => Tr.setK .bad v q10 fr fun f10 =>
  k f10 h2)
 (.seq (.reg fun _ fr h k =>
  obind2 (nCopy 1 (Tr.get .bad q10 fr) (Tr.get .bad q3 fr) h) fun _ h1 =>
  k fr h1)
 (.seq (.reg fun _ fr h k =>
  obind (pBuild [.int .i64 (.ofNat 0), .nilp, .nilp, .nils, .int .u32 (.ofNat 0), .int .u32 (.ofNat 0), .int .u32 (.ofNat 0), .int .u32 (.ofNat 0)] [(0, 1, (Tr.get .bad q0 fr)), (1, 1, (Tr.get .bad q1 fr)), (2, 1, (Tr.get .bad q2 fr)), (3, 1, (Tr.get .bad q10 fr))]) fun v0 =>
  obind2 (nBox v0 h) fun v1 h2 =>
  forceG v1 fun v => Tr.setK .bad v q8 fr fun f8 =>
  k f8 h2)
 .ret)))))), resF [.t 8]⟩
theorem g35_ok : Comp Tryz.prog Tryz.f35 4 [8, 9, 10, 16] g35 := ⟨_, [.t 8], rfl, by kernel_rfl, by decide, by kernel_rfl, by kernel_rfl, rfl, rfl⟩
/-- pianola/pianolaref2.New -/
def g36 : GFunc := ⟨1, (.seq (.reg fun _ fr h k =>
  forceG .nilp fun v => Tr.setK .bad v q2 fr fun f2 =>
  k f2 h)
 (.seq (.reg fun _ fr h k =>
  obind (pMin (Tr.get .bad q0 fr) (.int .i64 (.ofNat 64))) fun v0 =>
  obind (pMax v0 (.int .i64 (.ofNat 1))) fun v1 =>
  forceG v1 fun v => Tr.setK .bad v q3 fr fun f3 =>
  k f3 h)
 (.seq (.reg fun _ fr h k =>
  obind (pMul (Tr.get .bad q3 fr) (.int .i64 (.ofNat 1024))) fun v0 =>
  obind2 (nMakeS [.int .u8 (.ofNat 0)] 1 1 (some (.u8, 8)) v0 v0 h) fun v1 h2 =>
  obind2 (nMakeS [.bool false] 1 1 none (Tr.get .bad q3 fr) (Tr.get .bad q3 fr) h2) fun v2 h3 =>
  obind2 (nMakeS [.bool false] 1 1 none (Tr.get .bad q3 fr) (Tr.get .bad q3 fr) h3) fun v3 h4 =>
  obind (pBuild [.nils, .nils, .nils] [(0, 1, v1), (1, 1, v2), (2, 1, v3)]) fun v4 =>
  obind2 (nBox v4 h4) fun v5 h6 =>
  forceG v5 fun v => Tr.setK .bad v q2 fr fun f2 =>
  k f2 h6)
 .ret))), resF [.t 2]⟩
theorem g36_ok : Comp Tryz.prog Tryz.f36 1 [2, 3] g36 := ⟨_, [.t 2], rfl, by kernel_rfl, by decide, by kernel_rfl, by kernel_rfl, rfl, rfl⟩
/-- pianola/bus.window -/
def g37 : GFunc := ⟨2, (.seq (.reg fun _ fr h k =>
  forceG (.int .i64 (.ofNat 0)) fun v => Tr.setK .bad v q4 fr fun f4 =>
  forceG (.int .u32 (.ofNat 0)) fun v => Tr.setK .bad v q5 f4 fun f5 =>
  forceG (.bool false) fun v => Tr.setK .bad v q6 f5 fun f6 =>
  k f6 h)
 (.seq (.seq (.reg fun _ fr h k =>
  obind (pNeq (Tr.get .bad q1 fr) (.int .i64 (.ofNat 4))) fun v0 =>
  guardC v0 false h (fun k => k (Tr.get .bad q0 fr) h) fun v1 h2 =>
  guardC v0 false h2 (fun k => obind (pLss v1 (.int .u32 (.ofNat 520093696))) fun v => k v h2) fun v2 h3 =>
  obind (pPick v0 (.bool true) v2) fun v3 =>
  guardC v3 false h3 (fun k => k (Tr.get .bad q0 fr) h3) fun v4 h5 =>
  guardC v3 false h5 (fun k => obind (pRem v4 (.int .u32 (.ofNat 4))) fun v => k v h5) fun v5 h6 =>
  guardC v3 false h6 (fun k => obind (pNeq v5 (.int .u32 (.ofNat 0))) fun v => k v h6) fun v6 h7 =>
  obind (pPick v3 (.bool true) v6) fun v7 =>
  forceG v7 fun v => Tr.setK .bad v q18 fr fun f18 =>
  k f18 h7)
 (.cond 18 q18 (.seq (.reg fun _ fr h k =>
  forceG (.int .i64 (.ofNat 0)) fun v => Tr.setK .bad v q4 fr fun f4 =>
  forceG (.int .u32 (.ofNat 0)) fun v => Tr.setK .bad v q5 f4 fun f5 =>
  forceG (.bool false) fun v => Tr.setK .bad v q6 f5 fun f6 =>
  k f6 h)
 .ret)
 .skip))
 (.seq (.reg fun _ fr h k =>
  obind (pSub (Tr.get .bad q0 fr) (.int .u32 (.ofNat 520093696))) fun v0 =>
  obind (pQuo v0 (.int .u32 (.ofNat 64))) fun v1 =>
  forceG v1 fun v => Tr.setK .bad v q7 fr fun f7 =>
  k f7 h)
 (.seq (.reg fun _ fr h k =>
  obind (pConv .i64 (Tr.get .bad q7 fr)) fun v0 =>
  obind (pSub (Tr.get .bad q0 fr) (.int .u32 (.ofNat 520093696))) fun v1 =>
  obind (pRem v1 (.int .u32 (.ofNat 64))) fun v2 =>
  obind (pLeq (Tr.get .bad q7 fr) (.int .u32 (.ofNat 5))) fun v3 =>
  forceG v0 fun v => Tr.setK .bad v q4 fr fun f4 =>
  forceG v2 fun v => Tr.setK .bad v q5 f4 fun f5 =>
  forceG v3 fun v => Tr.setK .bad v q6 f5 fun f6 =>
  k f6 h)
 .ret)))), resF [.t 4, .t 5, .t 6]⟩
theorem g37_ok : Comp Tryz.prog Tryz.f37 2 [4, 5, 6, 7, 18] g37 := ⟨_, [.t 4, .t 5, .t 6], rfl, by kernel_rfl, by decide, by kernel_rfl, by kernel_rfl, rfl, rfl⟩
/-- (*pianola/bus.Bus).read -/
def g38 : GFunc := ⟨4, (.seq (.reg fun _ fr h k =>
  forceG (.int .u32 (.ofNat 0)) fun v => Tr.setK .bad v q8 fr fun f8 =>
  forceG (.bool false) fun v => Tr.setK .bad v q9 f8 fun f9 =>
  k f9 h)
 (.seq (.seq (.reg fun _ fr h k =>
  forceG (Tr.get .bad q1 fr) fun v => Tr.setK .bad v q10 fr fun f10 =>
  k f10 h)
 (.block 0 (.seq (.reg fun _ fr h k =>
  obind (pEql (Tr.get .bad q10 fr) (.int .i64 (.ofNat 0))) fun v0 =>
  forceG v0 fun v => Tr.setK .bad v q11 fr fun f11 =>
  k f11 h)
 (.cond 11 q11 (.seq (.reg fun call fr h k =>
  obind (pNilck (Tr.get .bad q0 fr)) fun v0 =>
  obind (pFa 2 v0) fun v1 =>
  obind (rLd1 v1 h) fun v2 =>
  call q78 [v2, (Tr.get .bad q2 fr), (Tr.get .bad q3 fr)] h fun v3 h4 =>
  obind (pExt 0 v3) fun v4 =>
  obind (pExt 1 v3) fun v5 =>
  forceG v4 fun v => Tr.setK .bad v q8 fr fun f8 =>
  forceG v5 fun v => Tr.setK .bad v q9 f8 fun f9 =>
  k f9 h4)
 .ret)
 (.seq (.reg fun _ fr h k =>
  obind (pEql (Tr.get .bad q10 fr) (.int .i64 (.ofNat 1))) fun v0 =>
  forceG v0 fun v => Tr.setK .bad v q22 fr fun f22 =>
  k f22 h)
 (.cond 22 q22 (.seq (.reg fun call fr h k =>
  obind (pNilck (Tr.get .bad q0 fr)) fun v0 =>
  obind (pFa 3 v0) fun v1 =>
  obind (rLd1 v1 h) fun v2 =>
  call q79 [v2, (Tr.get .bad q2 fr)] h fun v3 h4 =>
  obind (pExt 0 v3) fun v4 =>
  obind (pExt 1 v3) fun v5 =>
  forceG v4 fun v => Tr.setK .bad v q8 fr fun f8 =>
  forceG v5 fun v => Tr.setK .bad v q9 f8 fun f9 =>
  k f9 h4)
 .ret)
 (.seq (.reg fun _ fr h k =>
  obind (pEql (Tr.get .bad q10 fr) (.int .i64 (.ofNat 2))) fun v0 =>
  forceG v0 fun v => Tr.setK .bad v q32 fr fun f32 =>
  k f32 h)
 (.cond 32 q32 (.seq (.reg fun call fr h k =>
  obind (pNilck (Tr.get .bad q0 fr)) fun v0 =>
  obind (pFa 4 v0) fun v1 =>
  obind (rLd1 v1 h) fun v2 =>
  call q79 [v2, (Tr.get .bad q2 fr)] h fun v3 h4 =>
  obind (pExt 0 v3) fun v4 =>
  obind (pExt 1 v3) fun v5 =>
  forceG v4 fun v => Tr.setK .bad v q8 fr fun f8 =>
  forceG v5 fun v => Tr.setK .bad v q9 f8 fun f9 =>
  k f9 h4)
 .ret)
 (.seq (.reg fun _ fr h k =>
  obind (pEql (Tr.get .bad q10 fr) (.int .i64 (.ofNat 3))) fun v0 =>
  forceG v0 fun v => Tr.setK .bad v q42 fr fun f42 =>
  k f42 h)
 (.cond 42 q42 (.seq (.reg fun call fr h k =>
  obind (pNilck (Tr.get .bad q0 fr)) fun v0 =>
  obind (pFa 5 v0) fun v1 =>
  obind (rLd1 v1 h) fun v2 =>
  call q80 [v2, (Tr.get .bad q2 fr)] h fun v3 h4 =>
  obind (pExt 0 v3) fun v4 =>
  obind (pExt 1 v3) fun v5 =>
  forceG v4 fun v => Tr.setK .bad v q8 fr fun f8 =>
  forceG v5 fun v => Tr.setK .bad v q9 f8 fun f9 =>
  k f9 h4)
 .ret)
 (.seq (.reg fun _ fr h k =>
  obind (pEql (Tr.get .bad q10 fr) (.int .i64 (.ofNat 4))) fun v0 =>
  forceG v0 fun v => Tr.setK .bad v q52 fr fun f52 =>
  k f52 h)
 (.cond 52 q52 (.seq (.reg fun call fr h k =>
  obind (pNilck (Tr.get .bad q0 fr)) fun v0 =>
  obind (pFa 6 v0) fun v1 =>
  obind (rLd1 v1 h) fun v2 =>
  call q81 [v2, (Tr.get .bad q2 fr)] h fun v3 h4 =>
  obind (pExt 0 v3) fun v4 =>
  obind (pExt 1 v3) fun v5 =>
  forceG v4 fun v => Tr.setK .bad v q8 fr fun f8 =>
  forceG v5 fun v => Tr.setK .bad v q9 f8 fun f9 =>
  k f9 h4)
 .ret)
 .skip))))))))))))
 (.seq (.reg fun call fr h k =>
  obind (pNilck (Tr.get .bad q0 fr)) fun v0 =>
  obind (pFa 7 v0) fun v1 =>
  obind (rLd1 v1 h) fun v2 =>
  call q82 [v2, (Tr.get .bad q2 fr)] h fun v3 h4 =>
  obind (pExt 0 v3) fun v4 =>
  obind (pExt 1 v3) fun v5 =>
  forceG v4 fun v => Tr.setK .bad v q8 fr fun f8 =>
  forceG v5 fun v => Tr.setK .bad v q9 f8 fun f9 =>
  k f9 h4)
 .ret))), resF [.t 8, .t 9]⟩
theorem g38_ok : Comp Tryz.prog Tryz.f38 4 [8, 9, 10, 11, 22, 32, 42, 52] g38 := ⟨_, [.t 8, .t 9], rfl, by kernel_rfl, by decide, by kernel_rfl, by kernel_rfl, rfl, rfl⟩
/-- (*pianola/bus.Bus).gather -/
def g39 : GFunc := ⟨1, (.seq (.reg fun _ fr h k =>
  forceG (.int .i64 (.ofNat 1)) fun v => Tr.setK .bad v q2 fr fun f2 =>
  k f2 h)
 (.block 0 (.loop (.seq (.seq (.reg fun _ fr h k =>
  obind (pLeq (Tr.get .bad q2 fr) (.int .i64 (.ofNat 5))) fun v0 =>
  forceG v0 fun v => Tr.setK .bad v q4 fr fun f4 =>
  k f4 h)
 (.cond 4 q4 .skip
 (.exit 0)))
 (.seq (.block 1 (.reg fun call fr h k =>
  obind (pNilck (Tr.get .bad q0 fr)) fun v0 =>
  obind (pFa 2 v0) fun v1 =>
  obind (rLd1 v1 h) fun v2 =>
  call q84 [(Tr.get .bad q0 fr), (Tr.get .bad q2 fr)] h fun v3 h4 =>
  call q83 [v2, (Tr.get .bad q2 fr), v3] h4 fun _ h5 =>
  chk v2 (rLd1 v1 h4) <|
  k fr h5))
 (.reg fun _ fr h k =>
  obind (pAdd (Tr.get .bad q2 fr) (.int .i64 (.ofNat 1))) fun v0 =>
  forceG v0 fun v => Tr.setK .bad v q2 fr fun f2 =>
  k f2 h)))))), resF []⟩
theorem g39_ok : Comp Tryz.prog Tryz.f39 1 [2, 4] g39 := ⟨_, [], rfl, by kernel_rfl, by decide, by kernel_rfl, by kernel_rfl, rfl, rfl⟩
/-- (*pianola/pianolaref2.Ram).Load -/
def g40 : GFunc := ⟨3, (.seq (.reg fun _ fr h k =>
  forceG (.int .u32 (.ofNat 0)) fun v => Tr.setK .bad v q6 fr fun f6 =>
  forceG (.bool false) fun v => Tr.setK .bad v q7 f6 fun f7 =>
  k f7 h)
 (.seq (.seq (.reg fun call fr h k =>
  obind (pNeq (Tr.get .bad q2 fr) (.int .i64 (.ofNat 1))) fun v0 =>
  guardC v0 true h (fun k => k (Tr.get .bad q2 fr) h) fun v1 h2 =>
  guardC v0 true h2 (fun k => obind (pNeq v1 (.int .i64 (.ofNat 2))) fun v => k v h2) fun v2 h3 =>
  obind (pPick v0 v2 (.bool false)) fun v3 =>
  guardC v3 true h3 (fun k => k (Tr.get .bad q2 fr) h3) fun v4 h5 =>
  guardC v3 true h5 (fun k => obind (pNeq v4 (.int .i64 (.ofNat 4))) fun v => k v h5) fun v5 h6 =>
  obind (pPick v3 v5 (.bool false)) fun v6 =>
  guardC v6 false h6 (fun k => k (Tr.get .bad q1 fr) h6) fun v7 h8 =>
  guardC v6 false h8 (fun k => k (Tr.get .bad q2 fr) h8) fun v8 h9 =>
  guardC v6 false h9 (fun k => obind (pConv .u32 v8) fun v => k v h9) fun v9 h10 =>
  guardC v6 false h10 (fun k => obind (pRem v7 v9) fun v => k v h10) fun v10 h11 =>
  guardC v6 false h11 (fun k => obind (pNeq v10 (.int .u32 (.ofNat 0))) fun v => k v h11) fun v11 h12 =>
  obind (pPick v6 (.bool true) v11) fun v12 =>
  guardC v12 false h12 (fun k => k (Tr.get .bad q0 fr) h12) fun v13 h14 =>
  guardC v12 false h14 (fun k => k (Tr.get .bad q1 fr) h14) fun v14 h15 =>
  guardC v12 false h15 (fun k => k (Tr.get .bad q2 fr) h15) fun v15 h16 =>
  guardC v12 false h16 (fun k => call q85 [v13, v14, v15] h16 k) fun v16 h17 =>
  guardC v12 false h17 (fun k => obind (pNot v16) fun v => k v h17) fun v17 h18 =>
  obind (pPick v12 (.bool true) v17) fun v18 =>
  forceG v18 fun v => Tr.setK .bad v q33 fr fun f33 =>
  k f33 h18)
 (.cond 33 q33 (.seq (.reg fun _ fr h k =>
  forceG (.int .u32 (.ofNat 0)) fun v => Tr.setK .bad v q6 fr fun f6 =>
  forceG (.bool false) fun v => Tr.setK .bad v q7 f6 fun f7 =>
  k f7 h)
 .ret)
 .skip))
 (.seq (.reg fun _ fr h k =>
  forceG (.int .u32 (.ofNat 0)) fun v => Tr.setK .bad v q8 fr fun f8 =>
  k f8 h)
 (.seq (.seq (.reg fun _ fr h k =>
  forceG (.int .i64 (.ofNat 0)) fun v => Tr.setK .bad v q9 fr fun f9 =>
  k f9 h)
 (.block 0 (.loop (.seq (.seq (.reg fun _ fr h k =>
  obind (pLss (Tr.get .bad q9 fr) (Tr.get .bad q2 fr)) fun v0 =>
  forceG v0 fun v => Tr.setK .bad v q36 fr fun f36 =>
  k f36 h)
 (.cond 36 q36 .skip
 (.exit 0)))
 (.seq (.block 1 (.reg fun _ fr h k =>
  obind (pShl (Tr.get .bad q8 fr) (.int .u64 (.ofNat 8))) fun v0 =>
  obind (pNilck (Tr.get .bad q0 fr)) fun v1 =>
  obind (pFa 0 v1) fun v2 =>
  obind (rLd1 v2 h) fun v3 =>
  obind (pConv .i64 (Tr.get .bad q1 fr)) fun v4 =>
  obind (pAdd v4 (Tr.get .bad q9 fr)) fun v5 =>
  obind (pIdxS 1 v3 v5) fun v6 =>
  obind (rLd1 v6 h) fun v7 =>
  obind (pConv .u32 v7) fun v8 =>
  obind (pOr v0 v8) fun v9 =>
  forceG v9 fun v => Tr.setK .bad v q8 fr fun f8 =>
  k f8 h))
 (.reg fun _ fr h k =>
  obind (pAdd (Tr.get .bad q9 fr) (.int .i64 (.ofNat 1))) fun v0 =>
  forceG v0 fun v => Tr.setK .bad v q9 fr fun f9 =>
  k f9 h))))))
 (.seq (.reg fun _ fr h k =>
  forceG (Tr.get .bad q8 fr) fun v => Tr.setK .bad v q6 fr fun f6 =>
  forceG (.bool true) fun v => Tr.setK .bad v q7 f6 fun f7 =>
  k f7 h)
 .ret))))), resF [.t 6, .t 7]⟩
theorem g40_ok : Comp Tryz.prog Tryz.f40 3 [6, 7, 8, 9, 33, 36] g40 := ⟨_, [.t 6, .t 7], rfl, by kernel_rfl, by decide, by kernel_rfl, by kernel_rfl, rfl, rfl⟩
end
end Go.Ev
