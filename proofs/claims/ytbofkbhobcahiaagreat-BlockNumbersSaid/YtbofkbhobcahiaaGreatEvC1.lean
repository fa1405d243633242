/- Ghost code of the Go functions, printed by a program of this session (genfiles.py). -/
import Derived.Test.YtbofkbhobcahiaaGreatEvComp
import Derived.Test.YtbofkbhobcahiaaGreatProg
namespace Go.Ev
open Go.Proofs
set_option maxRecDepth 100000
noncomputable section
/-- (*pianola/pianolaref15.Bus).Word -/
def g42 : GFunc := ⟨4, (.seq (.reg fun _ fr h k =>
  forceG (.int .u32 (.ofNat 0)) fun v => Tr.setK .bad v q8 fr fun f8 =>
  forceG (.bool false) fun v => Tr.setK .bad v q9 f8 fun f9 =>
  k f9 h)
 (.seq (.reg fun _ fr h k =>
  obind2 (nBuildS (rep [.int .u32 (.ofNat 0)] 0) 0 1 (some (.u32, 32)) [] h) fun v0 h1 =>
  forceG v0 fun v => Tr.setK .bad v q10 fr fun f10 =>
  k f10 h1)
 (.seq (.seq (.reg fun _ fr h k =>
  forceG (Tr.get .bad q1 fr) fun v => Tr.setK .bad v q14 fr fun f14 =>
  k f14 h)
 (.block 0 (.seq (.reg fun _ fr h k =>
  obind (pEql (Tr.get .bad q14 fr) (.int .i64 (.ofNat 0))) fun v0 =>
  forceG v0 fun v => Tr.setK .bad v q15 fr fun f15 =>
  k f15 h)
 (.cond 15 q15 (.reg fun _ fr h k =>
  obind (pNilck (Tr.get .bad q0 fr)) fun v0 =>
  obind (pFa 23 v0) fun v1 =>
  obind (rLd1 v1 h) fun v2 =>
  obind (pNilck (Tr.get .bad q0 fr)) fun v3 =>
  obind (pFa 24 v3) fun v4 =>
  obind (rLd1 v4 h) fun v5 =>
  obind (pConv .u64 (Tr.get .bad q3 fr)) fun v6 =>
  obind (pConv .u32 v6) fun v7 =>
  obind (pConv .u64 (Tr.get .bad q3 fr)) fun v8 =>
  obind (pShr v8 (.int .u64 (.ofNat 32))) fun v9 =>
  obind (pConv .u32 v9) fun v10 =>
  obind2 (nBuildS (rep [.int .u32 (.ofNat 0)] 4) 4 1 (some (.u32, 32)) [(0, 1, v2), (1, 1, v5), (2, 1, v7), (3, 1, v10)] h) fun v11 h12 =>
  forceG v11 fun v => Tr.setK .bad v q10 fr fun f10 =>
  k f10 h12)
 (.seq (.seq (.reg fun _ fr h k =>
  obind (pEql (Tr.get .bad q14 fr) (.int .i64 (.ofNat 1))) fun v0 =>
  forceG v0 fun v => Tr.setK .bad v q33 fr fun f33 =>
  k f33 h)
 (.cond 33 q33 .skip
 (.reg fun _ fr h k =>
  obind (pEql (Tr.get .bad q14 fr) (.int .i64 (.ofNat 2))) fun v0 =>
  forceG v0 fun v => Tr.setK .bad v q33 fr fun f33 =>
  k f33 h)))
 (.cond 33 q33 (.seq (.reg fun _ fr h k =>
  obind (pSub (Tr.get .bad q1 fr) (.int .i64 (.ofNat 1))) fun v0 =>
  obind (pNilck (Tr.get .bad q0 fr)) fun v1 =>
  obind (pFa 3 v1) fun v2 =>
  obind (pIdxA 2 3 v2 v0) fun v3 =>
  obind (rLdN 3 v3 h) fun v4 =>
  obind2 (nAlloc [.int .u32 (.ofNat 0), .int .u32 (.ofNat 0), .int .u32 (.ofNat 0)] h) fun v5 h6 =>
  obind (wStN 3 v5 v4 h6) fun h7 =>
  forceG v5 fun v => Tr.setK .bad v q11 fr fun f11 =>
  k f11 h7)
 (.reg fun _ fr h k =>
  obind (pFa 0 (Tr.get .bad q11 fr)) fun v0 =>
  obind (rLd1 v0 h) fun v1 =>
  obind (pFa 1 (Tr.get .bad q11 fr)) fun v2 =>
  obind (rLd1 v2 h) fun v3 =>
  obind (pFa 2 (Tr.get .bad q11 fr)) fun v4 =>
  obind (rLd1 v4 h) fun v5 =>
  obind2 (nBuildS (rep [.int .u32 (.ofNat 0)] 3) 3 1 (some (.u32, 32)) [(0, 1, v1), (1, 1, v3), (2, 1, v5)] h) fun v6 h7 =>
  forceG v6 fun v => Tr.setK .bad v q10 fr fun f10 =>
  k f10 h7))
 (.seq (.reg fun _ fr h k =>
  obind (pEql (Tr.get .bad q14 fr) (.int .i64 (.ofNat 3))) fun v0 =>
  forceG v0 fun v => Tr.setK .bad v q50 fr fun f50 =>
  k f50 h)
 (.cond 50 q50 (.seq (.reg fun _ fr h k =>
  forceG (.int .u32 (.ofNat 256)) fun v => Tr.setK .bad v q12 fr fun f12 =>
  k f12 h)
 (.seq (.seq (.reg fun _ fr h k =>
  obind (pNilck (Tr.get .bad q0 fr)) fun v0 =>
  obind (pFa 9 v0) fun v1 =>
  obind (pFa 0 v1) fun v2 =>
  obind (rLd1 v2 h) fun v3 =>
  obind (pLenS v3) fun v4 =>
  obind (pGtr v4 (.int .i64 (.ofNat 0))) fun v5 =>
  forceG v5 fun v => Tr.setK .bad v q58 fr fun f58 =>
  k f58 h)
 (.cond 58 q58 (.reg fun _ fr h k =>
  obind (pNilck (Tr.get .bad q0 fr)) fun v0 =>
  obind (pFa 9 v0) fun v1 =>
  obind (pFa 0 v1) fun v2 =>
  obind (rLd1 v2 h) fun v3 =>
  obind (pIdxS 1 v3 (.int .i64 (.ofNat 0))) fun v4 =>
  obind (rLd1 v4 h) fun v5 =>
  obind (pConv .u32 v5) fun v6 =>
  forceG v6 fun v => Tr.setK .bad v q12 fr fun f12 =>
  k f12 h)
 .skip))
 (.reg fun call fr h k =>
  obind (pNilck (Tr.get .bad q0 fr)) fun v0 =>
  obind (pFa 9 v0) fun v1 =>
  obind (pFa 0 v1) fun v2 =>
  obind (rLd1 v2 h) fun v3 =>
  obind (pLenS v3) fun v4 =>
  obind (pGtr v4 (.int .i64 (.ofNat 0))) fun v5 =>
  call q86 [v5, (.int .u64 (.ofNat 0))] h fun v6 h7 =>
  obind (pNilck (Tr.get .bad q0 fr)) fun v7 =>
  obind (pFa 9 v7) fun v8 =>
  obind (pFa 1 v8) fun v9 =>
  obind (rLd1 v9 h7) fun v10 =>
  obind (pLenS v10) fun v11 =>
  obind (pGeq v11 (.int .i64 (.ofNat 16))) fun v12 =>
  call q86 [v12, (.int .u64 (.ofNat 1))] h7 fun v13 h14 =>
  obind (pOr v6 v13) fun v14 =>
  obind (pNilck (Tr.get .bad q0 fr)) fun v15 =>
  obind (pFa 9 v15) fun v16 =>
  obind (pFa 2 v16) fun v17 =>
  obind (rLd1 v17 h14) fun v18 =>
  call q86 [v18, (.int .u64 (.ofNat 2))] h14 fun v19 h20 =>
  obind (pOr v14 v19) fun v20 =>
  obind (pNilck (Tr.get .bad q0 fr)) fun v21 =>
  obind (pFa 9 v21) fun v22 =>
  obind (pFa 1 v22) fun v23 =>
  obind (rLd1 v23 h20) fun v24 =>
  obind (pLenS v24) fun v25 =>
  obind (pEql v25 (.int .i64 (.ofNat 0))) fun v26 =>
  call q86 [v26, (.int .u64 (.ofNat 3))] h20 fun v27 h28 =>
  obind (pOr v20 v27) fun v28 =>
  obind (pNilck (Tr.get .bad q0 fr)) fun v29 =>
  obind (pFa 9 v29) fun v30 =>
  obind (pFa 3 v30) fun v31 =>
  obind (rLd1 v31 h28) fun v32 =>
  obind2 (nBuildS (rep [.int .u32 (.ofNat 0)] 3) 3 1 (some (.u32, 32)) [(0, 1, (Tr.get .bad q12 fr)), (1, 1, v28), (2, 1, v32)] h28) fun v33 h34 =>
  chk v10 (rLd1 v9 h) <|
  chk v18 (rLd1 v17 h) <|
  chk v18 (rLd1 v17 h7) <|
  chk v24 (rLd1 v23 h) <|
  chk v24 (rLd1 v23 h7) <|
  chk v24 (rLd1 v23 h14) <|
  chk v32 (rLd1 v31 h) <|
  chk v32 (rLd1 v31 h7) <|
  chk v32 (rLd1 v31 h14) <|
  chk v32 (rLd1 v31 h20) <|
  forceG v33 fun v => Tr.setK .bad v q10 fr fun f10 =>
  k f10 h34)))
 (.seq (.reg fun _ fr h k =>
  obind (pEql (Tr.get .bad q14 fr) (.int .i64 (.ofNat 4))) fun v0 =>
  forceG v0 fun v => Tr.setK .bad v q107 fr fun f107 =>
  k f107 h)
 (.cond 107 q107 (.reg fun _ fr h k =>
  obind (pNilck (Tr.get .bad q0 fr)) fun v0 =>
  obind (pFa 14 v0) fun v1 =>
  obind (pFa 0 v1) fun v2 =>
  obind (rLd1 v2 h) fun v3 =>
  obind (pNilck (Tr.get .bad q0 fr)) fun v4 =>
  obind (pFa 14 v4) fun v5 =>
  obind (pFa 1 v5) fun v6 =>
  obind (rLd1 v6 h) fun v7 =>
  obind (pNilck (Tr.get .bad q0 fr)) fun v8 =>
  obind (pFa 14 v8) fun v9 =>
  obind (pFa 2 v9) fun v10 =>
  obind (rLd1 v10 h) fun v11 =>
  obind (pNilck (Tr.get .bad q0 fr)) fun v12 =>
  obind (pFa 14 v12) fun v13 =>
  obind (pFa 3 v13) fun v14 =>
  obind (rLd1 v14 h) fun v15 =>
  obind2 (nBuildS (rep [.int .u32 (.ofNat 0)] 5) 5 1 (some (.u32, 32)) [(0, 1, v3), (1, 1, v7), (2, 1, v11), (3, 1, (.int .u32 (.ofNat 0))), (4, 1, v15)] h) fun v16 h17 =>
  forceG v16 fun v => Tr.setK .bad v q10 fr fun f10 =>
  k f10 h17)
 (.seq (.reg fun _ fr h k =>
  obind (pEql (Tr.get .bad q14 fr) (.int .i64 (.ofNat 5))) fun v0 =>
  forceG v0 fun v => Tr.setK .bad v q130 fr fun f130 =>
  k f130 h)
 (.cond 130 q130 (.reg fun _ fr h k =>
  obind (pNilck (Tr.get .bad q0 fr)) fun v0 =>
  obind (pFa 18 v0) fun v1 =>
  obind (pFa 0 v1) fun v2 =>
  obind (rLd1 v2 h) fun v3 =>
  obind (pNilck (Tr.get .bad q0 fr)) fun v4 =>
  obind (pFa 18 v4) fun v5 =>
  obind (pFa 1 v5) fun v6 =>
  obind (rLd1 v6 h) fun v7 =>
  obind (pNilck (Tr.get .bad q0 fr)) fun v8 =>
  obind (pFa 18 v8) fun v9 =>
  obind (pFa 2 v9) fun v10 =>
  obind (rLd1 v10 h) fun v11 =>
  obind (pNilck (Tr.get .bad q0 fr)) fun v12 =>
  obind (pFa 18 v12) fun v13 =>
  obind (pFa 3 v13) fun v14 =>
  obind (rLd1 v14 h) fun v15 =>
  obind2 (nBuildS (rep [.int .u32 (.ofNat 0)] 4) 4 1 (some (.u32, 32)) [(0, 1, v3), (1, 1, v7), (2, 1, v11), (3, 1, v15)] h) fun v16 h17 =>
  forceG v16 fun v => Tr.setK .bad v q10 fr fun f10 =>
  k f10 h17)
 .skip))))))))))))
 (.seq (.seq (.reg fun _ fr h k =>
  obind (pRem (Tr.get .bad q2 fr) (.int .u32 (.ofNat 4))) fun v0 =>
  obind (pNeq v0 (.int .u32 (.ofNat 0))) fun v1 =>
  guardC v1 false h (fun k => k (Tr.get .bad q2 fr) h) fun v2 h3 =>
  guardC v1 false h3 (fun k => obind (pQuo v2 (.int .u32 (.ofNat 4))) fun v => k v h3) fun v3 h4 =>
  guardC v1 false h4 (fun k => k (Tr.get .bad q10 fr) h4) fun v4 h5 =>
  guardC v1 false h5 (fun k => obind (pLenS v4) fun v => k v h5) fun v5 h6 =>
  guardC v1 false h6 (fun k => obind (pConv .u32 v5) fun v => k v h6) fun v6 h7 =>
  guardC v1 false h7 (fun k => obind (pGeq v3 v6) fun v => k v h7) fun v7 h8 =>
  obind (pPick v1 (.bool true) v7) fun v8 =>
  forceG v8 fun v => Tr.setK .bad v q163 fr fun f163 =>
  k f163 h8)
 (.cond 163 q163 (.seq (.reg fun _ fr h k =>
  forceG (.int .u32 (.ofNat 0)) fun v => Tr.setK .bad v q8 fr fun f8 =>
  forceG (.bool false) fun v => Tr.setK .bad v q9 f8 fun f9 =>
  k f9 h)
 .ret)
 .skip))
 (.seq (.seq (.reg fun _ fr h k =>
  obind (pEql (Tr.get .bad q1 fr) (.int .i64 (.ofNat 3))) fun v0 =>
  guardC v0 true h (fun k => k (Tr.get .bad q2 fr) h) fun v1 h2 =>
  guardC v0 true h2 (fun k => obind (pEql v1 (.int .u32 (.ofNat 0))) fun v => k v h2) fun v2 h3 =>
  obind (pPick v0 v2 (.bool false)) fun v3 =>
  guardC v3 true h3 (fun k => k (Tr.get .bad q0 fr) h3) fun v4 h5 =>
  guardC v3 true h5 (fun k => obind (pNilck v4) fun v => k v h5) fun v5 h6 =>
  guardC v3 true h6 (fun k => obind (pFa 9 v5) fun v => k v h6) fun v6 h7 =>
  guardC v3 true h7 (fun k => obind (pFa 0 v6) fun v => k v h7) fun v7 h8 =>
  guardC v3 true h8 (fun k => obind (rLd1 v7 h8) fun v => k v h8) fun v8 h9 =>
  guardC v3 true h9 (fun k => obind (pLenS v8) fun v => k v h9) fun v9 h10 =>
  guardC v3 true h10 (fun k => obind (pGtr v9 (.int .i64 (.ofNat 0))) fun v => k v h10) fun v10 h11 =>
  obind (pPick v3 v10 (.bool false)) fun v11 =>
  forceG v11 fun v => Tr.setK .bad v q178 fr fun f178 =>
  k f178 h11)
 (.cond 178 q178 (.reg fun _ fr h k =>
  obind2 (nBuildS (rep [.int .u8 (.ofNat 0)] 0) 0 1 (some (.u8, 8)) [] h) fun v0 h1 =>
  obind (pNilck (Tr.get .bad q0 fr)) fun v1 =>
  obind (pFa 9 v1) fun v2 =>
  obind (pFa 0 v2) fun v3 =>
  obind (rLd1 v3 h1) fun v4 =>
  obind (pSlS 1 (some (.int .i64 (.ofNat 1))) none none v4) fun v5 =>
  obind2 (nAppend 1 1 (some (.u8, 8)) v0 v5 h1) fun v6 h7 =>
  obind (pNilck (Tr.get .bad q0 fr)) fun v7 =>
  obind (pFa 9 v7) fun v8 =>
  obind (pFa 0 v8) fun v9 =>
  obind (wSt1 v9 v6 h7) fun h11 =>
  k fr h11)
 .skip))
 (.seq (.reg fun _ fr h k =>
  obind (pQuo (Tr.get .bad q2 fr) (.int .u32 (.ofNat 4))) fun v0 =>
  obind (pIdxS 1 (Tr.get .bad q10 fr) v0) fun v1 =>
  obind (rLd1 v1 h) fun v2 =>
  forceG v2 fun v => Tr.setK .bad v q8 fr fun f8 =>
  forceG (.bool true) fun v => Tr.setK .bad v q9 f8 fun f9 =>
  k f9 h)
 .ret)))))), resF [.t 8, .t 9]⟩
theorem g42_ok : Comp Tryz.prog Tryz.f42 4 [8, 9, 10, 11, 12, 14, 15, 33, 50, 58, 107, 130, 163, 178] g42 := ⟨_, [.t 8, .t 9], rfl, by kernel_rfl, by decide, by kernel_rfl, by kernel_rfl, rfl, rfl⟩
/-- (*pianola/pianolaref15.Bus).gather -/
def g43 : GFunc := ⟨1, (.seq (.reg fun _ fr h k =>
  obind (pNilck (Tr.get .bad q0 fr)) fun v0 =>
  obind (pFa 23 v0) fun v1 =>
  obind (wSt1 v1 (.int .u32 (.ofNat 0)) h) fun h3 =>
  k fr h3)
 (.seq (.reg fun _ fr h k =>
  forceG (.int .i64 (.ofNat 1)) fun v => Tr.setK .bad v q2 fr fun f2 =>
  k f2 h)
 (.block 0 (.loop (.seq (.seq (.reg fun _ fr h k =>
  obind (pLss (Tr.get .bad q2 fr) (.int .i64 (.ofNat 6))) fun v0 =>
  forceG v0 fun v => Tr.setK .bad v q7 fr fun f7 =>
  k f7 h)
 (.cond 7 q7 .skip
 (.exit 0)))
 (.seq (.block 1 (.seq (.reg fun call fr h k =>
  call q87 [(Tr.get .bad q0 fr), (Tr.get .bad q2 fr)] h fun v0 h1 =>
  forceG v0 fun v => Tr.setK .bad v q12 fr fun f12 =>
  k f12 h1)
 (.cond 12 q12 (.reg fun _ fr h k =>
  obind (pNilck (Tr.get .bad q0 fr)) fun v0 =>
  obind (pFa 23 v0) fun v1 =>
  obind (rLd1 v1 h) fun v2 =>
  obind (pConv .u64 (Tr.get .bad q2 fr)) fun v3 =>
  obind (pShl (.int .u32 (.ofNat 1)) v3) fun v4 =>
  obind (pOr v2 v4) fun v5 =>
  obind (pNilck (Tr.get .bad q0 fr)) fun v6 =>
  obind (pFa 23 v6) fun v7 =>
  obind (wSt1 v7 v5 h) fun h9 =>
  k fr h9)
 .skip)))
 (.reg fun _ fr h k =>
  obind (pAdd (Tr.get .bad q2 fr) (.int .i64 (.ofNat 1))) fun v0 =>
  forceG v0 fun v => Tr.setK .bad v q2 fr fun f2 =>
  k f2 h))))))), resF []⟩
theorem g43_ok : Comp Tryz.prog Tryz.f43 1 [2, 7, 12] g43 := ⟨_, [], rfl, by kernel_rfl, by decide, by kernel_rfl, by kernel_rfl, rfl, rfl⟩
/-- (*pianola/pianolaref2.Ram).Store -/
def g45 : GFunc := ⟨4, (.seq (.reg fun _ fr h k =>
  forceG (.bool false) fun v => Tr.setK .bad v q8 fr fun f8 =>
  k f8 h)
 (.seq (.seq (.reg fun call fr h k =>
  obind (pNeq (Tr.get .bad q2 fr) (.int .i64 (.ofNat 1))) fun v0 =>
  guardC v0 true h (fun k => k (Tr.get .bad q2 fr) h) fun v1 h2 =>
  guardC v0 true h2 (fun k => obind (pNeq v1 (.int .i64 (.ofNat 2))) fun v => k v h2) fun v2 h3 =>
  obind (pPick v0 v2 (.bool false)) fun v3 =>
  guardC v3 true h3 (fun k => k (Tr.get .bad q2 fr) h3) fun v4 h5 =>
  guardC v3 true h5 (fun k => obind (pNeq v4 (.int .i64 (.ofNat 4))) fun v => k v h5) fun v5 h6 =>
  obind (pPick v3 v5 (.bool false)) fun v6 =>
  guardC v6 false h6 (fun k => k (Tr.get .bad q1 fr) h6) fun v7 h8 =>
  guardC v6 false h8 (fun k => k (Tr.get .bad q2 fr) h8) fun v8 h9 =>
  guardC v6 false h9 (fun k => obind (pConv .u32 v8) fun v => k v h9) fun v9 h10 =>
  guardC v6 false h10 (fun k => obind (pRem v7 v9) fun v => k v h10) fun v10 h11 =>
  guardC v6 false h11 (fun k => obind (pNeq v10 (.int .u32 (.ofNat 0))) fun v => k v h11) fun v11 h12 =>
  obind (pPick v6 (.bool true) v11) fun v12 =>
  guardC v12 false h12 (fun k => k (Tr.get .bad q0 fr) h12) fun v13 h14 =>
  guardC v12 false h14 (fun k => k (Tr.get .bad q1 fr) h14) fun v14 h15 =>
  guardC v12 false h15 (fun k => k (Tr.get .bad q2 fr) h15) fun v15 h16 =>
  guardC v12 false h16 (fun k => call q85 [v13, v14, v15] h16 k) fun v16 h17 =>
  guardC v12 false h17 (fun k => obind (pNot v16) fun v => k v h17) fun v17 h18 =>
  obind (pPick v12 (.bool true) v17) fun v18 =>
  forceG v18 fun v => Tr.setK .bad v q33 fr fun f33 =>
  k f33 h18)
 (.cond 33 q33 (.seq (.reg fun _ fr h k =>
  forceG (.bool false) fun v => Tr.setK .bad v q8 fr fun f8 =>
  k f8 h)
 .ret)
 .skip))
 (.seq (.seq (.reg fun _ fr h k =>
  forceG (.int .i64 (.ofNat 0)) fun v => Tr.setK .bad v q9 fr fun f9 =>
  k f9 h)
 (.block 0 (.loop (.seq (.seq (.reg fun _ fr h k =>
  obind (pLss (Tr.get .bad q9 fr) (Tr.get .bad q2 fr)) fun v0 =>
  forceG v0 fun v => Tr.setK .bad v q36 fr fun f36 =>
  k f36 h)
 (.cond 36 q36 .skip
 (.exit 0)))
 (.seq (.block 1 (.reg fun _ fr h k =>
  obind (pNilck (Tr.get .bad q0 fr)) fun v0 =>
  obind (pFa 0 v0) fun v1 =>
  obind (rLd1 v1 h) fun v2 =>
  obind (pConv .i64 (Tr.get .bad q1 fr)) fun v3 =>
  obind (pAdd v3 (Tr.get .bad q9 fr)) fun v4 =>
  obind (pSub (Tr.get .bad q2 fr) (.int .i64 (.ofNat 1))) fun v5 =>
  obind (pSub v5 (Tr.get .bad q9 fr)) fun v6 =>
  obind (pMul (.int .i64 (.ofNat 8)) v6) fun v7 =>
  obind (pConv .u64 v7) fun v8 =>
  obind (pShr (Tr.get .bad q3 fr) v8) fun v9 =>
  obind (pConv .u8 v9) fun v10 =>
  obind (pIdxS 1 v2 v4) fun v11 =>
  obind (wSt1 v11 v10 h) fun h13 =>
  k fr h13))
 (.reg fun _ fr h k =>
  obind (pAdd (Tr.get .bad q9 fr) (.int .i64 (.ofNat 1))) fun v0 =>
  forceG v0 fun v => Tr.setK .bad v q9 fr fun f9 =>
  k f9 h))))))
 (.seq (.reg fun call fr h k =>
  call q93 [(Tr.get .bad q0 fr), (Tr.get .bad q1 fr), (Tr.get .bad q2 fr)] h fun _ h1 =>
  k fr h1)
 (.seq (.reg fun _ fr h k =>
  forceG (.bool true) fun v => Tr.setK .bad v q8 fr fun f8 =>
  k f8 h)
 .ret))))), resF [.t 8]⟩
theorem g45_ok : Comp Tryz.prog Tryz.f45 4 [8, 9, 33, 36] g45 := ⟨_, [.t 8], rfl, by kernel_rfl, by decide, by kernel_rfl, by kernel_rfl, rfl, rfl⟩
/-- (*pianola/pianolaref15.Bus).Set -/
def g46 : GFunc := ⟨5, (.seq (.reg fun _ fr h k =>
  forceG (.bool false) fun v => Tr.setK .bad v q10 fr fun f10 =>
  k f10 h)
 (.seq (.seq (.reg fun _ fr h k =>
  obind (pRem (Tr.get .bad q2 fr) (.int .u32 (.ofNat 4))) fun v0 =>
  obind (pNeq v0 (.int .u32 (.ofNat 0))) fun v1 =>
  forceG v1 fun v => Tr.setK .bad v q13 fr fun f13 =>
  k f13 h)
 (.cond 13 q13 (.seq (.reg fun _ fr h k =>
  forceG (.bool false) fun v => Tr.setK .bad v q10 fr fun f10 =>
  k f10 h)
 .ret)
 .skip))
 (.seq (.seq (.reg fun _ fr h k =>
  forceG (Tr.get .bad q1 fr) fun v => Tr.setK .bad v q14 fr fun f14 =>
  k f14 h)
 (.block 0 (.seq (.reg fun _ fr h k =>
  obind (pEql (Tr.get .bad q14 fr) (.int .i64 (.ofNat 0))) fun v0 =>
  forceG v0 fun v => Tr.setK .bad v q15 fr fun f15 =>
  k f15 h)
 (.cond 15 q15 (.seq (.seq (.reg fun _ fr h k =>
  obind (pEql (Tr.get .bad q2 fr) (.int .u32 (.ofNat 4))) fun v0 =>
  forceG v0 fun v => Tr.setK .bad v q18 fr fun f18 =>
  k f18 h)
 (.cond 18 q18 (.reg fun _ fr h k =>
  obind (pAnd (Tr.get .bad q3 fr) (.int .u32 (.ofNat 62))) fun v0 =>
  obind (pNilck (Tr.get .bad q0 fr)) fun v1 =>
  obind (pFa 24 v1) fun v2 =>
  obind (wSt1 v2 v0 h) fun h4 =>
  k fr h4)
 .skip))
 (.seq (.reg fun _ fr h k =>
  obind (pLss (Tr.get .bad q2 fr) (.int .u32 (.ofNat 16))) fun v0 =>
  forceG v0 fun v => Tr.setK .bad v q10 fr fun f10 =>
  k f10 h)
 .ret))
 (.seq (.seq (.reg fun _ fr h k =>
  obind (pEql (Tr.get .bad q14 fr) (.int .i64 (.ofNat 1))) fun v0 =>
  forceG v0 fun v => Tr.setK .bad v q26 fr fun f26 =>
  k f26 h)
 (.cond 26 q26 .skip
 (.reg fun _ fr h k =>
  obind (pEql (Tr.get .bad q14 fr) (.int .i64 (.ofNat 2))) fun v0 =>
  forceG v0 fun v => Tr.setK .bad v q26 fr fun f26 =>
  k f26 h)))
 (.cond 26 q26 (.seq (.reg fun call fr h k =>
  obind (pQuo (Tr.get .bad q2 fr) (.int .u32 (.ofNat 4))) fun v0 =>
  call q94 [(Tr.get .bad q0 fr), (Tr.get .bad q1 fr), v0, (Tr.get .bad q3 fr), (Tr.get .bad q4 fr)] h fun v1 h2 =>
  forceG v1 fun v => Tr.setK .bad v q10 fr fun f10 =>
  k f10 h2)
 .ret)
 (.seq (.reg fun _ fr h k =>
  obind (pEql (Tr.get .bad q14 fr) (.int .i64 (.ofNat 3))) fun v0 =>
  forceG v0 fun v => Tr.setK .bad v q36 fr fun f36 =>
  k f36 h)
 (.cond 36 q36 (.seq (.reg fun call fr h k =>
  obind (pQuo (Tr.get .bad q2 fr) (.int .u32 (.ofNat 4))) fun v0 =>
  call q95 [(Tr.get .bad q0 fr), v0, (Tr.get .bad q3 fr), (Tr.get .bad q4 fr)] h fun v1 h2 =>
  forceG v1 fun v => Tr.setK .bad v q10 fr fun f10 =>
  k f10 h2)
 .ret)
 (.seq (.reg fun _ fr h k =>
  obind (pEql (Tr.get .bad q14 fr) (.int .i64 (.ofNat 4))) fun v0 =>
  forceG v0 fun v => Tr.setK .bad v q44 fr fun f44 =>
  k f44 h)
 (.cond 44 q44 (.seq (.reg fun call fr h k =>
  obind (pQuo (Tr.get .bad q2 fr) (.int .u32 (.ofNat 4))) fun v0 =>
  call q96 [(Tr.get .bad q0 fr), v0, (Tr.get .bad q3 fr), (Tr.get .bad q4 fr)] h fun v1 h2 =>
  forceG v1 fun v => Tr.setK .bad v q10 fr fun f10 =>
  k f10 h2)
 .ret)
 (.seq (.reg fun _ fr h k =>
  obind (pEql (Tr.get .bad q14 fr) (.int .i64 (.ofNat 5))) fun v0 =>
  forceG v0 fun v => Tr.setK .bad v q52 fr fun f52 =>
  k f52 h)
 (.cond 52 q52 (.seq (.reg fun call fr h k =>
  obind (pQuo (Tr.get .bad q2 fr) (.int .u32 (.ofNat 4))) fun v0 =>
  call q97 [(Tr.get .bad q0 fr), v0, (Tr.get .bad q3 fr), (Tr.get .bad q4 fr)] h fun v1 h2 =>
  forceG v1 fun v => Tr.setK .bad v q10 fr fun f10 =>
  k f10 h2)
 .ret)
 .skip))))))))))))
 (.seq (.reg fun _ fr h k =>
  forceG (.bool false) fun v => Tr.setK .bad v q10 fr fun f10 =>
  k f10 h)
 .ret)))), resF [.t 10]⟩
theorem g46_ok : Comp Tryz.prog Tryz.f46 5 [10, 13, 14, 15, 18, 26, 36, 44, 52] g46 := ⟨_, [.t 10], rfl, by kernel_rfl, by decide, by kernel_rfl, by kernel_rfl, rfl, rfl⟩
/-- (*pianola/pianolaref2.Ram).Put -/
def g60 : GFunc := ⟨3, (.seq (.reg fun _ fr h k =>
  forceG (.bool false) fun v => Tr.setK .bad v q6 fr fun f6 =>
  k f6 h)
 (.seq (.seq (.reg fun call fr h k =>
  obind (pLenS (Tr.get .bad q2 fr)) fun v0 =>
  call q85 [(Tr.get .bad q0 fr), (Tr.get .bad q1 fr), v0] h fun v1 h2 =>
  obind (pNot v1) fun v2 =>
  forceG v2 fun v => Tr.setK .bad v q12 fr fun f12 =>
  k f12 h2)
 (.cond 12 q12 (.seq (.reg fun _ fr h k =>
  forceG (.bool false) fun v => Tr.setK .bad v q6 fr fun f6 =>
  k f6 h)
 .ret)
 .skip))
 (.seq (.reg fun _ fr h k =>
  obind (pNilck (Tr.get .bad q0 fr)) fun v0 =>
  obind (pFa 0 v0) fun v1 =>
  obind (rLd1 v1 h) fun v2 =>
  obind (pSlS 1 (some (Tr.get .bad q1 fr)) none none v2) fun v3 =>
  obind2 (nCopy 1 v3 (Tr.get .bad q2 fr) h) fun _ h5 =>
  k fr h5)
 (.seq (.reg fun call fr h k =>
  obind (pLenS (Tr.get .bad q2 fr)) fun v0 =>
  call q93 [(Tr.get .bad q0 fr), (Tr.get .bad q1 fr), v0] h fun _ h2 =>
  k fr h2)
 (.seq (.reg fun _ fr h k =>
  forceG (.bool true) fun v => Tr.setK .bad v q6 fr fun f6 =>
  k f6 h)
 .ret))))), resF [.t 6]⟩
theorem g60_ok : Comp Tryz.prog Tryz.f60 3 [6, 12] g60 := ⟨_, [.t 6], rfl, by kernel_rfl, by decide, by kernel_rfl, by kernel_rfl, rfl, rfl⟩
/-- pianola/pianolaref21.Find -/
def g61 : GFunc := ⟨3, (.seq (.reg fun _ fr h k =>
  forceG .nils fun v => Tr.setK .bad v q6 fr fun f6 =>
  forceG .nils fun v => Tr.setK .bad v q7 f6 fun f7 =>
  forceG (.bool false) fun v => Tr.setK .bad v q8 f7 fun f8 =>
  k f8 h)
 (.seq (.seq (.reg fun call fr h k =>
  obind (pRem (Tr.get .bad q1 fr) (.int .u32 (.ofNat 4))) fun v0 =>
  obind (pNeq v0 (.int .u32 (.ofNat 0))) fun v1 =>
  guardC v1 false h (fun k => k (Tr.get .bad q0 fr) h) fun v2 h3 =>
  guardC v1 false h3 (fun k => k (Tr.get .bad q1 fr) h3) fun v3 h4 =>
  guardC v1 false h4 (fun k => call q85 [v2, v3, (.int .i64 (.ofNat 4))] h4 k) fun v4 h5 =>
  guardC v1 false h5 (fun k => obind (pNot v4) fun v => k v h5) fun v5 h6 =>
  obind (pPick v1 (.bool true) v5) fun v6 =>
  forceG v6 fun v => Tr.setK .bad v q25 fr fun f25 =>
  k f25 h6)
 (.cond 25 q25 (.seq (.reg fun _ fr h k =>
  forceG .nils fun v => Tr.setK .bad v q6 fr fun f6 =>
  forceG .nils fun v => Tr.setK .bad v q7 f6 fun f7 =>
  forceG (.bool false) fun v => Tr.setK .bad v q8 f7 fun f8 =>
  k f8 h)
 .ret)
 .skip))
 (.seq (.reg fun _ fr h k =>
  obind (pMin (Tr.get .bad q2 fr) (.int .i64 (.ofNat 32))) fun v0 =>
  obind (pMax v0 (.int .i64 (.ofNat 1))) fun v1 =>
  forceG v1 fun v => Tr.setK .bad v q2 fr fun f2 =>
  k f2 h)
 (.seq (.reg fun _ fr h k =>
  forceG .nils fun v => Tr.setK .bad v q9 fr fun f9 =>
  k f9 h)
 (.seq (.reg fun _ fr h k =>
  forceG .nils fun v => Tr.setK .bad v q10 fr fun f10 =>
  k f10 h)
 (.seq (.block 0 (.loop (.seq (.seq (.reg fun _ fr h k =>
  obind (pLenS (Tr.get .bad q9 fr)) fun v0 =>
  obind (pLss v0 (Tr.get .bad q2 fr)) fun v1 =>
  forceG v1 fun v => Tr.setK .bad v q32 fr fun f32 =>
  k f32 h)
 (.cond 32 q32 .skip
 (.exit 0)))
 (.block 1 (.seq (.reg fun call fr h k =>
  call q40 [(Tr.get .bad q0 fr), (Tr.get .bad q1 fr), (.int .i64 (.ofNat 4))] h fun v0 h1 =>
  obind (pExt 0 v0) fun v1 =>
  obind (pExt 1 v0) fun _ =>
  forceG v1 fun v => Tr.setK .bad v q11 fr fun f11 =>
  k f11 h1)
 (.seq (.reg fun call fr h k =>
  call q111 [(Tr.get .bad q11 fr)] h fun v0 h1 =>
  obind2 (nAlloc [.int .i64 (.ofNat 0), .int .i64 (.ofNat 0), .int .i64 (.ofNat 0), .int .i64 (.ofNat 0), .int .i64 (.ofNat 0), .int .u32 (.ofNat 0)] h1) fun v1 h2 =>
  obind (wStN 6 v1 v0 h2) fun h3 =>
  forceG v1 fun v => Tr.setK .bad v q13 fr fun f13 =>
  k f13 h3)
 (.seq (.reg fun call fr h k =>
  obind (rLdN 6 (Tr.get .bad q13 fr) h) fun v0 =>
  call q112 [v0] h fun v1 h2 =>
  forceG v1 fun v => Tr.setK .bad v q14 fr fun f14 =>
  k f14 h2)
 (.seq (.reg fun _ fr h k =>
  obind (pLenS (Tr.get .bad q10 fr)) fun v0 =>
  forceG v0 fun v => Tr.setK .bad v q15 fr fun f15 =>
  k f15 h)
 (.seq (.reg fun call fr h k =>
  obind (pGtr (Tr.get .bad q15 fr) (.int .i64 (.ofNat 0))) fun v0 =>
  guardC v0 true h (fun k => k (Tr.get .bad q10 fr) h) fun v1 h2 =>
  guardC v0 true h2 (fun k => k (Tr.get .bad q15 fr) h2) fun v2 h3 =>
  guardC v0 true h3 (fun k => obind (pSub v2 (.int .i64 (.ofNat 1))) fun v => k v h3) fun v3 h4 =>
  guardC v0 true h4 (fun k => obind (pIdxS 6 v1 v3) fun v => k v h4) fun v4 h5 =>
  guardC v0 true h5 (fun k => obind (rLdN 6 v4 h5) fun v => k v h5) fun v5 h6 =>
  guardC v0 true h6 (fun k => call q112 [v5] h6 k) fun v6 h7 =>
  guardC v0 true h7 (fun k => obind (pEql v6 (.int .i64 (.ofNat 3))) fun v => k v h7) fun v7 h8 =>
  obind (pPick v0 v7 (.bool false)) fun v8 =>
  forceG v8 fun v => Tr.setK .bad v q16 fr fun f16 =>
  k f16 h8)
 (.seq (.seq (.reg fun _ fr h k =>
  guardC (Tr.get .bad q16 fr) true h (fun k => k (Tr.get .bad q14 fr) h) fun v0 h1 =>
  guardC (Tr.get .bad q16 fr) true h1 (fun k => obind (pEql v0 (.int .i64 (.ofNat 3))) fun v => k v h1) fun v1 h2 =>
  guardC (Tr.get .bad q16 fr) true h2 (fun k => k v1 h2) fun v2 h3 =>
  guardC v2 false h3 (fun k => k (Tr.get .bad q14 fr) h3) fun v3 h4 =>
  guardC v2 false h4 (fun k => obind (pEql v3 (.int .i64 (.ofNat 6))) fun v => k v h4) fun v4 h5 =>
  guardC (Tr.get .bad q16 fr) true h5 (fun k => obind (pPick v2 (.bool true) v4) fun v => k v h5) fun v5 h6 =>
  obind (pPick (Tr.get .bad q16 fr) v5 (.bool false)) fun v6 =>
  forceG v6 fun v => Tr.setK .bad v q64 fr fun f64 =>
  k f64 h6)
 (.cond 64 q64 (.exit 0)
 .skip))
 (.seq (.reg fun _ fr h k =>
  obind2 (nBuildS (rep [.int .u32 (.ofNat 0)] 1) 1 1 (some (.u32, 32)) [(0, 1, (Tr.get .bad q11 fr))] h) fun v0 h1 =>
  obind2 (nAppend 1 4 (some (.u32, 32)) (Tr.get .bad q9 fr) v0 h1) fun v1 h2 =>
  obind (rLdN 6 (Tr.get .bad q13 fr) h2) fun v2 =>
  obind2 (nBuildS (rep [.int .i64 (.ofNat 0), .int .i64 (.ofNat 0), .int .i64 (.ofNat 0), .int .i64 (.ofNat 0), .int .i64 (.ofNat 0), .int .u32 (.ofNat 0)] 1) 1 6 none [(0, 6, v2)] h2) fun v3 h4 =>
  obind2 (nAppend 6 48 none (Tr.get .bad q10 fr) v3 h4) fun v4 h5 =>
  chk v2 (rLdN 6 (Tr.get .bad q13 fr) h1) <|
  forceG v1 fun v => Tr.setK .bad v q9 fr fun f9 =>
  forceG v4 fun v => Tr.setK .bad v q10 f9 fun f10 =>
  k f10 h5)
 (.seq (.reg fun _ fr h k =>
  obind (pAdd (Tr.get .bad q1 fr) (.int .u32 (.ofNat 4))) fun v0 =>
  forceG v0 fun v => Tr.setK .bad v q1 fr fun f1 =>
  k f1 h)
 (.seq (.reg fun _ fr h k =>
  guardC (Tr.get .bad q16 fr) false h (fun k => k (Tr.get .bad q14 fr) h) fun v0 h1 =>
  guardC (Tr.get .bad q16 fr) false h1 (fun k => obind (pEql v0 (.int .i64 (.ofNat 6))) fun v => k v h1) fun v1 h2 =>
  obind (pPick (Tr.get .bad q16 fr) (.bool true) v1) fun v2 =>
  guardC v2 false h2 (fun k => k (Tr.get .bad q1 fr) h2) fun v3 h4 =>
  guardC v2 false h4 (fun k => obind (pRem v3 (.int .u32 (.ofNat 1024))) fun v => k v h4) fun v4 h5 =>
  guardC v2 false h5 (fun k => obind (pEql v4 (.int .u32 (.ofNat 0))) fun v => k v h5) fun v5 h6 =>
  obind (pPick v2 (.bool true) v5) fun v6 =>
  forceG v6 fun v => Tr.setK .bad v q84 fr fun f84 =>
  k f84 h6)
 (.cond 84 q84 (.exit 0)
 .skip))))))))))))))
 (.seq (.reg fun _ fr h k =>
  forceG (Tr.get .bad q9 fr) fun v => Tr.setK .bad v q6 fr fun f6 =>
  forceG (Tr.get .bad q10 fr) fun v => Tr.setK .bad v q7 f6 fun f7 =>
  forceG (.bool true) fun v => Tr.setK .bad v q8 f7 fun f8 =>
  k f8 h)
 .ret))))))), resF [.t 6, .t 7, .t 8]⟩
theorem g61_ok : Comp Tryz.prog Tryz.f61 3 [1, 2, 6, 7, 8, 9, 10, 11, 13, 14, 15, 16, 25, 32, 64, 84] g61 := ⟨_, [.t 6, .t 7, .t 8], rfl, by kernel_rfl, by decide, by kernel_rfl, by kernel_rfl, rfl, rfl⟩
/-- pianola/pianolabook.Same[uint32] -/
def g62 : GFunc := ⟨2, (.seq (.reg fun _ fr h k =>
  forceG (.bool false) fun v => Tr.setK .bad v q4 fr fun f4 =>
  k f4 h)
 (.seq (.seq (.reg fun _ fr h k =>
  obind (pLenS (Tr.get .bad q0 fr)) fun v0 =>
  obind (pLenS (Tr.get .bad q1 fr)) fun v1 =>
  obind (pNeq v0 v1) fun v2 =>
  forceG v2 fun v => Tr.setK .bad v q10 fr fun f10 =>
  k f10 h)
 (.cond 10 q10 (.seq (.reg fun _ fr h k =>
  forceG (.bool false) fun v => Tr.setK .bad v q4 fr fun f4 =>
  k f4 h)
 .ret)
 .skip))
 (.seq (.seq (.reg fun _ fr h k =>
  forceG (.int .i64 (.ofNat 0)) fun v => Tr.setK .bad v q5 fr fun f5 =>
  k f5 h)
 (.block 0 (.loop (.seq (.seq (.reg fun _ fr h k =>
  obind (pLenS (Tr.get .bad q0 fr)) fun v0 =>
  obind (pLss (Tr.get .bad q5 fr) v0) fun v1 =>
  forceG v1 fun v => Tr.setK .bad v q14 fr fun f14 =>
  k f14 h)
 (.cond 14 q14 .skip
 (.exit 0)))
 (.seq (.block 1 (.seq (.reg fun _ fr h k =>
  obind (pIdxS 1 (Tr.get .bad q0 fr) (Tr.get .bad q5 fr)) fun v0 =>
  obind (rLd1 v0 h) fun v1 =>
  obind (pIdxS 1 (Tr.get .bad q1 fr) (Tr.get .bad q5 fr)) fun v2 =>
  obind (rLd1 v2 h) fun v3 =>
  obind (pNeq v1 v3) fun v4 =>
  forceG v4 fun v => Tr.setK .bad v q25 fr fun f25 =>
  k f25 h)
 (.cond 25 q25 (.seq (.reg fun _ fr h k =>
  forceG (.bool false) fun v => Tr.setK .bad v q4 fr fun f4 =>
  k f4 h)
 .ret)
 .skip)))
 (.reg fun _ fr h k =>
  obind (pAdd (Tr.get .bad q5 fr) (.int .i64 (.ofNat 1))) fun v0 =>
  forceG v0 fun v => Tr.setK .bad v q5 fr fun f5 =>
  k f5 h))))))
 (.seq (.reg fun _ fr h k =>
  forceG (.bool true) fun v => Tr.setK .bad v q4 fr fun f4 =>
  k f4 h)
 .ret)))), resF [.t 4]⟩
theorem g62_ok : Comp Tryz.prog Tryz.f62 2 [4, 5, 10, 14, 25] g62 := ⟨_, [.t 4], rfl, by kernel_rfl, by decide, by kernel_rfl, by kernel_rfl, rfl, rfl⟩
/-- pianola/pianolabook.Same[pianola/api.Inst] -/
def g63 : GFunc := ⟨2, (.seq (.reg fun _ fr h k =>
  forceG (.bool false) fun v => Tr.setK .bad v q4 fr fun f4 =>
  k f4 h)
 (.seq (.seq (.reg fun _ fr h k =>
  obind (pLenS (Tr.get .bad q0 fr)) fun v0 =>
  obind (pLenS (Tr.get .bad q1 fr)) fun v1 =>
  obind (pNeq v0 v1) fun v2 =>
  forceG v2 fun v => Tr.setK .bad v q10 fr fun f10 =>
  k f10 h)
 (.cond 10 q10 (.seq (.reg fun _ fr h k =>
  forceG (.bool false) fun v => Tr.setK .bad v q4 fr fun f4 =>
  k f4 h)
 .ret)
 .skip))
 (.seq (.seq (.reg fun _ fr h k =>
  forceG (.int .i64 (.ofNat 0)) fun v => Tr.setK .bad v q5 fr fun f5 =>
  k f5 h)
 (.block 0 (.loop (.seq (.seq (.reg fun _ fr h k =>
  obind (pLenS (Tr.get .bad q0 fr)) fun v0 =>
  obind (pLss (Tr.get .bad q5 fr) v0) fun v1 =>
  forceG v1 fun v => Tr.setK .bad v q14 fr fun f14 =>
  k f14 h)
 (.cond 14 q14 .skip
 (.exit 0)))
 (.seq (.block 1 (.seq (.reg fun _ fr h k =>
  obind (pIdxS 6 (Tr.get .bad q0 fr) (Tr.get .bad q5 fr)) fun v0 =>
  obind (rLdN 6 v0 h) fun v1 =>
  obind (pIdxS 6 (Tr.get .bad q1 fr) (Tr.get .bad q5 fr)) fun v2 =>
  obind (rLdN 6 v2 h) fun v3 =>
  obind (pNeqA [1, 1, 1, 1, 1, 1] v1 v3) fun v4 =>
  forceG v4 fun v => Tr.setK .bad v q25 fr fun f25 =>
  k f25 h)
 (.cond 25 q25 (.seq (.reg fun _ fr h k =>
  forceG (.bool false) fun v => Tr.setK .bad v q4 fr fun f4 =>
  k f4 h)
 .ret)
 .skip)))
 (.reg fun _ fr h k =>
  obind (pAdd (Tr.get .bad q5 fr) (.int .i64 (.ofNat 1))) fun v0 =>
  forceG v0 fun v => Tr.setK .bad v q5 fr fun f5 =>
  k f5 h))))))
 (.seq (.reg fun _ fr h k =>
  forceG (.bool true) fun v => Tr.setK .bad v q4 fr fun f4 =>
  k f4 h)
 .ret)))), resF [.t 4]⟩
theorem g63_ok : Comp Tryz.prog Tryz.f63 2 [4, 5, 10, 14, 25] g63 := ⟨_, [.t 4], rfl, by kernel_rfl, by decide, by kernel_rfl, by kernel_rfl, rfl, rfl⟩
/-- (pianola/block.Block).Page -/
def g64 : GFunc := ⟨1, (.seq (.reg fun _ fr h k =>
  obind2 (nBox (Tr.get .bad q0 fr) h) fun v0 h1 =>
  forceG v0 fun v => Tr.setK .bad v q1 fr fun f1 =>
  forceG (.int .i64 (.ofNat 0)) fun v => Tr.setK .bad v q2 f1 fun f2 =>
  k f2 h1)
 (.seq (.reg fun _ fr h k =>
  obind (pFa 0 (Tr.get .bad q1 fr)) fun v0 =>
  obind (rLd1 v0 h) fun v1 =>
  obind (pQuo v1 (.int .u32 (.ofNat 1024))) fun v2 =>
  obind (pConv .i64 v2) fun v3 =>
  forceG v3 fun v => Tr.setK .bad v q2 fr fun f2 =>
  k f2 h)
 .ret)), resF [.t 2]⟩
theorem g64_ok : Comp Tryz.prog Tryz.f64 1 [1, 2] g64 := ⟨_, [.t 2], rfl, by kernel_rfl, by decide, by kernel_rfl, by kernel_rfl, rfl, rfl⟩
/-- pianola/pianolaref17.New -/
def g65 : GFunc := ⟨3, (.seq (.reg fun _ fr h k =>
  forceG .nilp fun v => Tr.setK .bad v q6 fr fun f6 =>
  k f6 h)
 (.seq (.reg fun call fr h k =>
  call q113 [] h fun v0 h1 =>
  call q9 [(Tr.get .bad q0 fr), (Tr.get .bad q1 fr), (Tr.get .bad q2 fr)] h1 fun v1 h2 =>
  obind (pBuild [.int .u32 (.ofNat 0), .int .u32 (.ofNat 0), .int .u32 (.ofNat 0), .int .u32 (.ofNat 0), .int .u32 (.ofNat 0), .int .u32 (.ofNat 0), .int .u32 (.ofNat 0), .int .u32 (.ofNat 0), .int .u32 (.ofNat 0), .int .u32 (.ofNat 0), .int .u32 (.ofNat 0), .int .u32 (.ofNat 0), .int .u32 (.ofNat 0), .int .u32 (.ofNat 0), .int .u32 (.ofNat 0), .int .u32 (.ofNat 0), .int .u32 (.ofNat 0), .int .u32 (.ofNat 0), .int .u32 (.ofNat 0), .int .u32 (.ofNat 0), .int .u32 (.ofNat 0), .int .u32 (.ofNat 0), .int .u32 (.ofNat 0), .int .u32 (.ofNat 0), .int .u32 (.ofNat 0), .int .u32 (.ofNat 0), .int .u32 (.ofNat 0), .int .u32 (.ofNat 0), .int .u32 (.ofNat 0), .int .u32 (.ofNat 0), .int .u32 (.ofNat 0), .int .u32 (.ofNat 0), .int .u32 (.ofNat 0), .int .u32 (.ofNat 0), .int .u32 (.ofNat 0), .int .u32 (.ofNat 0), .bool false, .bool false, .int .u32 (.ofNat 0), .int .u32 (.ofNat 0), .int .u32 (.ofNat 0), .int .u32 (.ofNat 0), .int .u32 (.ofNat 0), .int .u32 (.ofNat 0), .int .u32 (.ofNat 0), .int .u32 (.ofNat 0), .int .u32 (.ofNat 0), .int .u32 (.ofNat 0), .int .u32 (.ofNat 0), .int .u32 (.ofNat 0), .int .u32 (.ofNat 0), .int .u32 (.ofNat 0), .int .u32 (.ofNat 0), .int .u32 (.ofNat 0), .int .u32 (.ofNat 0), .int .u32 (.ofNat 0), .int .u32 (.ofNat 0), .int .u32 (.ofNat 0), .int .u32 (.ofNat 0), .int .u32 (.ofNat 0), .int .u32 (.ofNat 0), .int .u32 (.ofNat 0), .int .u32 (.ofNat 0), .int .u32 (.ofNat 0), .int .u32 (.ofNat 0), .int .u32 (.ofNat 0), .int .u32 (.ofNat 0), .int .u32 (.ofNat 0), .int .u32 (.ofNat 0), .int .u32 (.ofNat 0), .int .u32 (.ofNat 0), .bool false, .int .i64 (.ofNat 0), .nilp] [(0, 73, v0), (73, 1, v1)]) fun v2 =>
  obind2 (nBox v2 h2) fun v3 h4 =>
  forceG v3 fun v => Tr.setK .bad v q6 fr fun f6 =>
  k f6 h4)
 .ret)), resF [.t 6]⟩
theorem g65_ok : Comp Tryz.prog Tryz.f65 3 [6] g65 := ⟨_, [.t 6], rfl, by kernel_rfl, by decide, by kernel_rfl, by kernel_rfl, rfl, rfl⟩
/-- pianola/pianolalaw21.class -/
def g66 : GFunc := ⟨1, (.seq (.reg fun _ fr h k =>
  obind2 (nBox (Tr.get .bad q0 fr) h) fun v0 h1 =>
  forceG v0 fun v => Tr.setK .bad v q1 fr fun f1 =>
  forceG (.int .i64 (.ofNat 0)) fun v => Tr.setK .bad v q2 f1 fun f2 =>
  k f2 h1)
 (.seq (.reg fun _ fr h k =>
  obind (pFa 0 (Tr.get .bad q1 fr)) fun v0 =>
  obind (rLd1 v0 h) fun v1 =>
  forceG v1 fun v => Tr.setK .bad v q3 fr fun f3 =>
  k f3 h)
 (.seq (.seq (.reg fun _ fr h k =>
  obind (pGeq (Tr.get .bad q3 fr) (.int .i64 (.ofNat 1))) fun v0 =>
  guardC v0 true h (fun k => k (Tr.get .bad q3 fr) h) fun v1 h2 =>
  guardC v0 true h2 (fun k => obind (pLeq v1 (.int .i64 (.ofNat 6))) fun v => k v h2) fun v2 h3 =>
  obind (pPick v0 v2 (.bool false)) fun v3 =>
  guardC v3 false h3 (fun k => k (Tr.get .bad q3 fr) h3) fun v4 h5 =>
  guardC v3 false h5 (fun k => obind (pGeq v4 (.int .i64 (.ofNat 9))) fun v => k v h5) fun v5 h6 =>
  guardC v3 false h6 (fun k => k v5 h6) fun v6 h7 =>
  guardC v6 true h7 (fun k => k (Tr.get .bad q3 fr) h7) fun v7 h8 =>
  guardC v6 true h8 (fun k => obind (pLeq v7 (.int .i64 (.ofNat 10))) fun v => k v h8) fun v8 h9 =>
  guardC v3 false h9 (fun k => obind (pPick v6 v8 (.bool false)) fun v => k v h9) fun v9 h10 =>
  obind (pPick v3 (.bool true) v9) fun v10 =>
  guardC v10 false h10 (fun k => k (Tr.get .bad q3 fr) h10) fun v11 h12 =>
  guardC v10 false h12 (fun k => obind (pGeq v11 (.int .i64 (.ofNat 13))) fun v => k v h12) fun v12 h13 =>
  guardC v10 false h13 (fun k => k v12 h13) fun v13 h14 =>
  guardC v13 true h14 (fun k => k (Tr.get .bad q3 fr) h14) fun v14 h15 =>
  guardC v13 true h15 (fun k => obind (pLeq v14 (.int .i64 (.ofNat 21))) fun v => k v h15) fun v15 h16 =>
  guardC v10 false h16 (fun k => obind (pPick v13 v15 (.bool false)) fun v => k v h16) fun v16 h17 =>
  obind (pPick v10 (.bool true) v16) fun v17 =>
  guardC v17 false h17 (fun k => k (Tr.get .bad q3 fr) h17) fun v18 h19 =>
  guardC v17 false h19 (fun k => obind (pEql v18 (.int .i64 (.ofNat 23))) fun v => k v h19) fun v19 h20 =>
  obind (pPick v17 (.bool true) v19) fun v20 =>
  guardC v20 false h20 (fun k => k (Tr.get .bad q3 fr) h20) fun v21 h22 =>
  guardC v20 false h22 (fun k => obind (pGeq v21 (.int .i64 (.ofNat 25))) fun v => k v h22) fun v22 h23 =>
  guardC v20 false h23 (fun k => k v22 h23) fun v23 h24 =>
  guardC v23 true h24 (fun k => k (Tr.get .bad q3 fr) h24) fun v24 h25 =>
  guardC v23 true h25 (fun k => obind (pLeq v24 (.int .i64 (.ofNat 31))) fun v => k v h25) fun v25 h26 =>
  guardC v20 false h26 (fun k => obind (pPick v23 v25 (.bool false)) fun v => k v h26) fun v26 h27 =>
  obind (pPick v20 (.bool true) v26) fun v27 =>
  guardC v27 false h27 (fun k => k (Tr.get .bad q3 fr) h27) fun v28 h29 =>
  guardC v27 false h29 (fun k => obind (pGeq v28 (.int .i64 (.ofNat 47))) fun v => k v h29) fun v29 h30 =>
  guardC v27 false h30 (fun k => k v29 h30) fun v30 h31 =>
  guardC v30 true h31 (fun k => k (Tr.get .bad q3 fr) h31) fun v31 h32 =>
  guardC v30 true h32 (fun k => obind (pLeq v31 (.int .i64 (.ofNat 53))) fun v => k v h32) fun v32 h33 =>
  guardC v27 false h33 (fun k => obind (pPick v30 v32 (.bool false)) fun v => k v h33) fun v33 h34 =>
  obind (pPick v27 (.bool true) v33) fun v34 =>
  guardC v34 false h34 (fun k => k (Tr.get .bad q3 fr) h34) fun v35 h36 =>
  guardC v34 false h36 (fun k => obind (pGeq v35 (.int .i64 (.ofNat 63))) fun v => k v h36) fun v36 h37 =>
  guardC v34 false h37 (fun k => k v36 h37) fun v37 h38 =>
  guardC v37 true h38 (fun k => k (Tr.get .bad q3 fr) h38) fun v38 h39 =>
  guardC v37 true h39 (fun k => obind (pLeq v38 (.int .i64 (.ofNat 65))) fun v => k v h39) fun v39 h40 =>
  guardC v34 false h40 (fun k => obind (pPick v37 v39 (.bool false)) fun v => k v h40) fun v40 h41 =>
  obind (pPick v34 (.bool true) v40) fun v41 =>
  guardC v41 false h41 (fun k => k (Tr.get .bad q3 fr) h41) fun v42 h43 =>
  guardC v41 false h43 (fun k => obind (pEql v42 (.int .i64 (.ofNat 76))) fun v => k v h43) fun v43 h44 =>
  obind (pPick v41 (.bool true) v43) fun v44 =>
  guardC v44 false h44 (fun k => k (Tr.get .bad q3 fr) h44) fun v45 h46 =>
  guardC v44 false h46 (fun k => obind (pEql v45 (.int .i64 (.ofNat 77))) fun v => k v h46) fun v46 h47 =>
  obind (pPick v44 (.bool true) v46) fun v47 =>
  forceG v47 fun v => Tr.setK .bad v q63 fr fun f63 =>
  k f63 h47)
 (.cond 63 q63 (.seq (.reg fun _ fr h k =>
  forceG (.int .i64 (.ofNat 1)) fun v => Tr.setK .bad v q2 fr fun f2 =>
  k f2 h)
 .ret)
 .skip))
 (.seq (.reg fun _ fr h k =>
  forceG (.int .i64 (.ofNat 0)) fun v => Tr.setK .bad v q2 fr fun f2 =>
  k f2 h)
 .ret)))), resF [.t 2]⟩
theorem g66_ok : Comp Tryz.prog Tryz.f66 1 [1, 2, 3, 63] g66 := ⟨_, [.t 2], rfl, by kernel_rfl, by decide, by kernel_rfl, by kernel_rfl, rfl, rfl⟩
/-- pianola/pianolaref18.Run -/
def g67 : GFunc := ⟨2, (.seq (.reg fun _ fr h k =>
  forceG (.bool false) fun v => Tr.setK .bad v q4 fr fun f4 =>
  k f4 h)
 (.seq (.seq (.reg fun _ fr h k =>
  forceG (.int .i64 (.ofNat 0)) fun v => Tr.setK .bad v q5 fr fun f5 =>
  k f5 h)
 (.block 0 (.loop (.seq (.seq (.reg fun _ fr h k =>
  obind (pLenS (Tr.get .bad q1 fr)) fun v0 =>
  obind (pLss (Tr.get .bad q5 fr) v0) fun v1 =>
  forceG v1 fun v => Tr.setK .bad v q10 fr fun f10 =>
  k f10 h)
 (.cond 10 q10 .skip
 (.exit 0)))
 (.seq (.block 1 (.seq (.reg fun call fr h k =>
  obind (pIdxS 5 (Tr.get .bad q1 fr) (Tr.get .bad q5 fr)) fun v0 =>
  obind (rLdN 5 v0 h) fun v1 =>
  call q114 [v1] h fun v2 h3 =>
  obind (pNot v2) fun v3 =>
  forceG v3 fun v => Tr.setK .bad v q18 fr fun f18 =>
  k f18 h3)
 (.cond 18 q18 (.seq (.reg fun _ fr h k =>
  forceG (.bool false) fun v => Tr.setK .bad v q4 fr fun f4 =>
  k f4 h)
 .ret)
 .skip)))
 (.reg fun _ fr h k =>
  obind (pAdd (Tr.get .bad q5 fr) (.int .i64 (.ofNat 1))) fun v0 =>
  forceG v0 fun v => Tr.setK .bad v q5 fr fun f5 =>
  k f5 h))))))
 (.seq (.seq (.reg fun _ fr h k =>
  forceG (.int .i64 (.ofNat 0)) fun v => Tr.setK .bad v q6 fr fun f6 =>
  k f6 h)
 (.block 2 (.loop (.seq (.seq (.reg fun _ fr h k =>
  obind (pLenS (Tr.get .bad q1 fr)) fun v0 =>
  obind (pLss (Tr.get .bad q6 fr) v0) fun v1 =>
  forceG v1 fun v => Tr.setK .bad v q22 fr fun f22 =>
  k f22 h)
 (.cond 22 q22 .skip
 (.exit 2)))
 (.seq (.block 3 (.reg fun call fr h k =>
  obind (pIdxS 5 (Tr.get .bad q1 fr) (Tr.get .bad q6 fr)) fun v0 =>
  obind (rLdN 5 v0 h) fun v1 =>
  call q115 [(Tr.get .bad q0 fr), v1] h fun _ h3 =>
  k fr h3))
 (.reg fun _ fr h k =>
  obind (pAdd (Tr.get .bad q6 fr) (.int .i64 (.ofNat 1))) fun v0 =>
  forceG v0 fun v => Tr.setK .bad v q6 fr fun f6 =>
  k f6 h))))))
 (.seq (.reg fun _ fr h k =>
  forceG (.bool true) fun v => Tr.setK .bad v q4 fr fun f4 =>
  k f4 h)
 .ret)))), resF [.t 4]⟩
theorem g67_ok : Comp Tryz.prog Tryz.f67 2 [4, 5, 6, 10, 18, 22] g67 := ⟨_, [.t 4], rfl, by kernel_rfl, by decide, by kernel_rfl, by kernel_rfl, rfl, rfl⟩
/-- (*pianola/pianolaref17.Machine).Exec -/
def g68 : GFunc := ⟨2, (.seq (.reg fun _ fr h k =>
  obind2 (nBox (Tr.get .bad q1 fr) h) fun v0 h1 =>
  forceG v0 fun v => Tr.setK .bad v q3 fr fun f3 =>
  forceG (.int .i64 (.ofNat 0)) fun v => Tr.setK .bad v q4 f3 fun f4 =>
  k f4 h1)
 (.seq (.reg fun _ fr h k =>
  obind (pFa 1 (Tr.get .bad q3 fr)) fun v0 =>
  obind (rLd1 v0 h) fun v1 =>
  obind (pAnd v1 (.int .i64 (.ofNat 31))) fun v2 =>
  obind (pNilck (Tr.get .bad q0 fr)) fun v3 =>
  obind (pFa 0 v3) fun v4 =>
  obind (pFa 0 v4) fun v5 =>
  obind (pIdxA 32 1 v5 v2) fun v6 =>
  obind (rLd1 v6 h) fun v7 =>
  obind (pFa 2 (Tr.get .bad q3 fr)) fun v8 =>
  obind (rLd1 v8 h) fun v9 =>
  obind (pAnd v9 (.int .i64 (.ofNat 31))) fun v10 =>
  obind (pNilck (Tr.get .bad q0 fr)) fun v11 =>
  obind (pFa 0 v11) fun v12 =>
  obind (pFa 0 v12) fun v13 =>
  obind (pIdxA 32 1 v13 v10) fun v14 =>
  obind (rLd1 v14 h) fun v15 =>
  forceG v7 fun v => Tr.setK .bad v q5 fr fun f5 =>
  forceG v15 fun v => Tr.setK .bad v q6 f5 fun f6 =>
  k f6 h)
 (.seq (.seq (.reg fun call fr h k =>
  obind (rLdN 6 (Tr.get .bad q3 fr) h) fun v0 =>
  call q116 [(Tr.get .bad q0 fr), v0, (Tr.get .bad q5 fr), (Tr.get .bad q6 fr)] h fun v1 h2 =>
  forceG v1 fun v => Tr.setK .bad v q7 fr fun f7 =>
  k f7 h2)
 (.seq (.reg fun _ fr h k =>
  obind (pGeq (Tr.get .bad q7 fr) (.int .i64 (.ofNat 0))) fun v0 =>
  forceG v0 fun v => Tr.setK .bad v q34 fr fun f34 =>
  k f34 h)
 (.cond 34 q34 (.seq (.reg fun call fr h k =>
  call q117 [(Tr.get .bad q0 fr), (Tr.get .bad q7 fr), (.bool false)] h fun v0 h1 =>
  forceG v0 fun v => Tr.setK .bad v q4 fr fun f4 =>
  k f4 h1)
 .ret)
 .skip)))
 (.seq (.seq (.reg fun call fr h k =>
  obind (rLdN 6 (Tr.get .bad q3 fr) h) fun v0 =>
  call q112 [v0] h fun v1 h2 =>
  forceG v1 fun v => Tr.setK .bad v q39 fr fun f39 =>
  k f39 h2)
 (.block 0 (.seq (.reg fun _ fr h k =>
  obind (pEql (Tr.get .bad q39 fr) (.int .i64 (.ofNat 4))) fun v0 =>
  forceG v0 fun v => Tr.setK .bad v q45 fr fun f45 =>
  k f45 h)
 (.cond 45 q45 (.seq (.reg fun call fr h k =>
  obind (rLdN 6 (Tr.get .bad q3 fr) h) fun v0 =>
  call q118 [(Tr.get .bad q0 fr), v0, (Tr.get .bad q5 fr)] h fun v1 h2 =>
  forceG v1 fun v => Tr.setK .bad v q8 fr fun f8 =>
  k f8 h2)
 (.seq (.reg fun _ fr h k =>
  obind (pGeq (Tr.get .bad q8 fr) (.int .i64 (.ofNat 0))) fun v0 =>
  forceG v0 fun v => Tr.setK .bad v q52 fr fun f52 =>
  k f52 h)
 (.cond 52 q52 (.seq (.reg fun _ fr h k =>
  forceG (Tr.get .bad q8 fr) fun v => Tr.setK .bad v q4 fr fun f4 =>
  k f4 h)
 .ret)
 .skip)))
 (.seq (.reg fun _ fr h k =>
  obind (pEql (Tr.get .bad q39 fr) (.int .i64 (.ofNat 5))) fun v0 =>
  forceG v0 fun v => Tr.setK .bad v q54 fr fun f54 =>
  k f54 h)
 (.cond 54 q54 (.seq (.reg fun call fr h k =>
  obind (rLdN 6 (Tr.get .bad q3 fr) h) fun v0 =>
  call q119 [(Tr.get .bad q0 fr), v0, (Tr.get .bad q5 fr), (Tr.get .bad q6 fr)] h fun v1 h2 =>
  forceG v1 fun v => Tr.setK .bad v q9 fr fun f9 =>
  k f9 h2)
 (.seq (.reg fun _ fr h k =>
  obind (pGeq (Tr.get .bad q9 fr) (.int .i64 (.ofNat 0))) fun v0 =>
  forceG v0 fun v => Tr.setK .bad v q62 fr fun f62 =>
  k f62 h)
 (.cond 62 q62 (.seq (.reg fun _ fr h k =>
  forceG (Tr.get .bad q9 fr) fun v => Tr.setK .bad v q4 fr fun f4 =>
  k f4 h)
 .ret)
 .skip)))
 (.seq (.reg fun _ fr h k =>
  obind (pEql (Tr.get .bad q39 fr) (.int .i64 (.ofNat 6))) fun v0 =>
  forceG v0 fun v => Tr.setK .bad v q64 fr fun f64 =>
  k f64 h)
 (.cond 64 q64 (.seq (.reg fun call fr h k =>
  obind (rLdN 6 (Tr.get .bad q3 fr) h) fun v0 =>
  call q120 [(Tr.get .bad q0 fr), v0, (Tr.get .bad q6 fr)] h fun _ h2 =>
  k fr h2)
 (.seq (.reg fun _ fr h k =>
  obind (pFa 0 (Tr.get .bad q3 fr)) fun v0 =>
  obind (rLd1 v0 h) fun v1 =>
  obind (pEql v1 (.int .i64 (.ofNat 60))) fun v2 =>
  forceG v2 fun v => Tr.setK .bad v q72 fr fun f72 =>
  k f72 h)
 (.cond 72 q72 (.seq (.reg fun call fr h k =>
  obind (pNilck (Tr.get .bad q0 fr)) fun v0 =>
  obind (pFa 0 v0) fun v1 =>
  call q121 [v1, (.int .i64 (.ofNat 1))] h fun _ h3 =>
  k fr h3)
 (.seq (.reg fun _ fr h k =>
  forceG (.int .i64 (.negSucc 0)) fun v => Tr.setK .bad v q4 fr fun f4 =>
  k f4 h)
 .ret))
 .skip)))
 (.reg fun call fr h k =>
  obind (rLdN 6 (Tr.get .bad q3 fr) h) fun v0 =>
  call q122 [(Tr.get .bad q0 fr), v0, (Tr.get .bad q5 fr), (Tr.get .bad q6 fr)] h fun _ h2 =>
  k fr h2)))))))))
 (.seq (.reg fun call fr h k =>
  obind (rLdN 6 (Tr.get .bad q3 fr) h) fun v0 =>
  call q123 [(Tr.get .bad q0 fr), v0, (Tr.get .bad q5 fr), (Tr.get .bad q6 fr)] h fun _ h2 =>
  k fr h2)
 (.seq (.reg fun call fr h k =>
  obind (pNilck (Tr.get .bad q0 fr)) fun v0 =>
  obind (pFa 0 v0) fun v1 =>
  call q121 [v1, (.int .i64 (.ofNat 1))] h fun _ h3 =>
  k fr h3)
 (.seq (.reg fun _ fr h k =>
  forceG (.int .i64 (.negSucc 0)) fun v => Tr.setK .bad v q4 fr fun f4 =>
  k f4 h)
 .ret))))))), resF [.t 4]⟩
theorem g68_ok : Comp Tryz.prog Tryz.f68 2 [3, 4, 5, 6, 7, 8, 9, 34, 39, 45, 52, 54, 62, 64, 72] g68 := ⟨_, [.t 4], rfl, by kernel_rfl, by decide, by kernel_rfl, by kernel_rfl, rfl, rfl⟩
/-- pianola/decode.Of -/
def g72 : GFunc := ⟨1, (.seq (.reg fun _ fr h k =>
  obind2 (nAlloc [.int .i64 (.ofNat 0), .int .i64 (.ofNat 0), .int .i64 (.ofNat 0), .int .i64 (.ofNat 0), .int .i64 (.ofNat 0), .int .u32 (.ofNat 0)] h) fun v0 h1 =>
  forceG v0 fun v => Tr.setK .bad v q2 fr fun f2 =>
  k f2 h1)
 (.seq (.reg fun call fr h k =>
  call q129 [(Tr.get .bad q0 fr)] h fun v0 h1 =>
  call q128 [v0, (Tr.get .bad q0 fr)] h1 fun v1 h2 =>
  obind (wStN 6 (Tr.get .bad q2 fr) v1 h2) fun h3 =>
  k fr h3)
 .ret)), resF [.cN 2 6]⟩
theorem g72_ok : Comp Tryz.prog Tryz.f72 1 [2] g72 := ⟨_, [.cN 2 6], rfl, by kernel_rfl, by decide, by kernel_rfl, by kernel_rfl, rfl, rfl⟩
/-- pianola/decode.Class -/
def g73 : GFunc := ⟨1, (.seq (.reg fun _ fr h k =>
  obind2 (nBox (Tr.get .bad q0 fr) h) fun v0 h1 =>
  forceG v0 fun v => Tr.setK .bad v q1 fr fun f1 =>
  forceG (.int .i64 (.ofNat 0)) fun v => Tr.setK .bad v q2 f1 fun f2 =>
  k f2 h1)
 (.seq (.seq (.reg fun _ fr h k =>
  obind (pFa 0 (Tr.get .bad q1 fr)) fun v0 =>
  obind (rLd1 v0 h) fun v1 =>
  forceG v1 fun v => Tr.setK .bad v q3 fr fun f3 =>
  k f3 h)
 (.block 0 (.seq (.reg fun _ fr h k =>
  obind (pLeq (Tr.get .bad q3 fr) (.int .i64 (.ofNat 0))) fun v0 =>
  guardC v0 false h (fun k => k (Tr.get .bad q3 fr) h) fun v1 h2 =>
  guardC v0 false h2 (fun k => obind (pGeq v1 (.int .i64 (.ofNat 78))) fun v => k v h2) fun v2 h3 =>
  obind (pPick v0 (.bool true) v2) fun v3 =>
  guardC v3 false h3 (fun k => k (Tr.get .bad q3 fr) h3) fun v4 h5 =>
  guardC v3 false h5 (fun k => obind (pEql v4 (.int .i64 (.ofNat 11))) fun v => k v h5) fun v5 h6 =>
  obind (pPick v3 (.bool true) v5) fun v6 =>
  guardC v6 false h6 (fun k => k (Tr.get .bad q3 fr) h6) fun v7 h8 =>
  guardC v6 false h8 (fun k => obind (pEql v7 (.int .i64 (.ofNat 12))) fun v => k v h8) fun v8 h9 =>
  obind (pPick v6 (.bool true) v8) fun v9 =>
  guardC v9 false h9 (fun k => k (Tr.get .bad q3 fr) h9) fun v10 h11 =>
  guardC v9 false h11 (fun k => obind (pGeq v10 (.int .i64 (.ofNat 54))) fun v => k v h11) fun v11 h12 =>
  guardC v9 false h12 (fun k => k v11 h12) fun v12 h13 =>
  guardC v12 true h13 (fun k => k (Tr.get .bad q3 fr) h13) fun v13 h14 =>
  guardC v12 true h14 (fun k => obind (pLeq v13 (.int .i64 (.ofNat 62))) fun v => k v h14) fun v14 h15 =>
  guardC v9 false h15 (fun k => obind (pPick v12 v14 (.bool false)) fun v => k v h15) fun v15 h16 =>
  obind (pPick v9 (.bool true) v15) fun v16 =>
  forceG v16 fun v => Tr.setK .bad v q6 fr fun f6 =>
  k f6 h16)
 (.cond 6 q6 (.seq (.reg fun _ fr h k =>
  forceG (.int .i64 (.ofNat 6)) fun v => Tr.setK .bad v q2 fr fun f2 =>
  k f2 h)
 .ret)
 (.seq (.reg fun _ fr h k =>
  obind (pEql (Tr.get .bad q3 fr) (.int .i64 (.ofNat 7))) fun v0 =>
  guardC v0 false h (fun k => k (Tr.get .bad q3 fr) h) fun v1 h2 =>
  guardC v0 false h2 (fun k => obind (pEql v1 (.int .i64 (.ofNat 8))) fun v => k v h2) fun v2 h3 =>
  obind (pPick v0 (.bool true) v2) fun v3 =>
  guardC v3 false h3 (fun k => k (Tr.get .bad q3 fr) h3) fun v4 h5 =>
  guardC v3 false h5 (fun k => obind (pGeq v4 (.int .i64 (.ofNat 36))) fun v => k v h5) fun v5 h6 =>
  guardC v3 false h6 (fun k => k v5 h6) fun v6 h7 =>
  guardC v6 true h7 (fun k => k (Tr.get .bad q3 fr) h7) fun v7 h8 =>
  guardC v6 true h8 (fun k => obind (pLeq v7 (.int .i64 (.ofNat 45))) fun v => k v h8) fun v8 h9 =>
  guardC v3 false h9 (fun k => obind (pPick v6 v8 (.bool false)) fun v => k v h9) fun v9 h10 =>
  obind (pPick v3 (.bool true) v9) fun v10 =>
  forceG v10 fun v => Tr.setK .bad v q29 fr fun f29 =>
  k f29 h10)
 (.cond 29 q29 (.seq (.reg fun _ fr h k =>
  forceG (.int .i64 (.ofNat 3)) fun v => Tr.setK .bad v q2 fr fun f2 =>
  k f2 h)
 .ret)
 (.seq (.reg fun _ fr h k =>
  obind (pGeq (Tr.get .bad q3 fr) (.int .i64 (.ofNat 66))) fun v0 =>
  guardC v0 true h (fun k => k (Tr.get .bad q3 fr) h) fun v1 h2 =>
  guardC v0 true h2 (fun k => obind (pLeq v1 (.int .i64 (.ofNat 70))) fun v => k v h2) fun v2 h3 =>
  obind (pPick v0 v2 (.bool false)) fun v3 =>
  guardC v3 false h3 (fun k => k (Tr.get .bad q3 fr) h3) fun v4 h5 =>
  guardC v3 false h5 (fun k => obind (pEql v4 (.int .i64 (.ofNat 74))) fun v => k v h5) fun v5 h6 =>
  obind (pPick v3 (.bool true) v5) fun v6 =>
  forceG v6 fun v => Tr.setK .bad v q44 fr fun f44 =>
  k f44 h6)
 (.cond 44 q44 (.seq (.reg fun _ fr h k =>
  forceG (.int .i64 (.ofNat 4)) fun v => Tr.setK .bad v q2 fr fun f2 =>
  k f2 h)
 .ret)
 (.seq (.reg fun _ fr h k =>
  obind (pGeq (Tr.get .bad q3 fr) (.int .i64 (.ofNat 71))) fun v0 =>
  guardC v0 true h (fun k => k (Tr.get .bad q3 fr) h) fun v1 h2 =>
  guardC v0 true h2 (fun k => obind (pLeq v1 (.int .i64 (.ofNat 73))) fun v => k v h2) fun v2 h3 =>
  obind (pPick v0 v2 (.bool false)) fun v3 =>
  guardC v3 false h3 (fun k => k (Tr.get .bad q3 fr) h3) fun v4 h5 =>
  guardC v3 false h5 (fun k => obind (pEql v4 (.int .i64 (.ofNat 75))) fun v => k v h5) fun v5 h6 =>
  obind (pPick v3 (.bool true) v5) fun v6 =>
  forceG v6 fun v => Tr.setK .bad v q55 fr fun f55 =>
  k f55 h6)
 (.cond 55 q55 (.seq (.reg fun _ fr h k =>
  forceG (.int .i64 (.ofNat 5)) fun v => Tr.setK .bad v q2 fr fun f2 =>
  k f2 h)
 .ret)
 (.seq (.reg fun _ fr h k =>
  obind (pEql (Tr.get .bad q3 fr) (.int .i64 (.ofNat 22))) fun v0 =>
  guardC v0 false h (fun k => k (Tr.get .bad q3 fr) h) fun v1 h2 =>
  guardC v0 false h2 (fun k => obind (pEql v1 (.int .i64 (.ofNat 24))) fun v => k v h2) fun v2 h3 =>
  obind (pPick v0 (.bool true) v2) fun v3 =>
  guardC v3 false h3 (fun k => k (Tr.get .bad q3 fr) h3) fun v4 h5 =>
  guardC v3 false h5 (fun k => obind (pEql v4 (.int .i64 (.ofNat 46))) fun v => k v h5) fun v5 h6 =>
  obind (pPick v3 (.bool true) v5) fun v6 =>
  guardC v6 false h6 (fun k => k (Tr.get .bad q3 fr) h6) fun v7 h8 =>
  guardC v6 false h8 (fun k => obind (pGeq v7 (.int .i64 (.ofNat 32))) fun v => k v h8) fun v8 h9 =>
  guardC v6 false h9 (fun k => k v8 h9) fun v9 h10 =>
  guardC v9 true h10 (fun k => k (Tr.get .bad q3 fr) h10) fun v10 h11 =>
  guardC v9 true h11 (fun k => obind (pLeq v10 (.int .i64 (.ofNat 35))) fun v => k v h11) fun v11 h12 =>
  guardC v6 false h12 (fun k => obind (pPick v9 v11 (.bool false)) fun v => k v h12) fun v12 h13 =>
  obind (pPick v6 (.bool true) v12) fun v13 =>
  forceG v13 fun v => Tr.setK .bad v q66 fr fun f66 =>
  k f66 h13)
 (.cond 66 q66 (.seq (.reg fun _ fr h k =>
  forceG (.int .i64 (.ofNat 2)) fun v => Tr.setK .bad v q2 fr fun f2 =>
  k f2 h)
 .ret)
 .skip))))))))))))
 (.seq (.reg fun _ fr h k =>
  forceG (.int .i64 (.ofNat 1)) fun v => Tr.setK .bad v q2 fr fun f2 =>
  k f2 h)
 .ret))), resF [.t 2]⟩
theorem g73_ok : Comp Tryz.prog Tryz.f73 1 [1, 2, 3, 6, 29, 44, 55, 66] g73 := ⟨_, [.t 2], rfl, by kernel_rfl, by decide, by kernel_rfl, by kernel_rfl, rfl, rfl⟩
/-- (*pianola/block.Block).add -/
def g74 : GFunc := ⟨3, (.seq (.reg fun _ fr h k =>
  obind2 (nBox (Tr.get .bad q2 fr) h) fun v0 h1 =>
  forceG v0 fun v => Tr.setK .bad v q5 fr fun f5 =>
  k f5 h1)
 (.seq (.reg fun _ fr h k =>
  obind (pNilck (Tr.get .bad q0 fr)) fun v0 =>
  obind (pFa 1 v0) fun v1 =>
  obind (rLd1 v1 h) fun v2 =>
  obind2 (nBuildS (rep [.int .u32 (.ofNat 0)] 1) 1 1 (some (.u32, 32)) [(0, 1, (Tr.get .bad q1 fr))] h) fun v3 h4 =>
  obind2 (nAppend 1 4 (some (.u32, 32)) v2 v3 h4) fun v4 h5 =>
  obind (pNilck (Tr.get .bad q0 fr)) fun v5 =>
  obind (pFa 2 v5) fun v6 =>
  obind (rLd1 v6 h5) fun v7 =>
  obind (rLdN 6 (Tr.get .bad q5 fr) h5) fun v8 =>
  obind2 (nBuildS (rep [.int .i64 (.ofNat 0), .int .i64 (.ofNat 0), .int .i64 (.ofNat 0), .int .i64 (.ofNat 0), .int .i64 (.ofNat 0), .int .u32 (.ofNat 0)] 1) 1 6 none [(0, 6, v8)] h5) fun v9 h10 =>
  obind2 (nAppend 6 48 none v7 v9 h10) fun v10 h11 =>
  obind (pNilck (Tr.get .bad q0 fr)) fun v11 =>
  obind (pFa 1 v11) fun v12 =>
  obind (wSt1 v12 v4 h11) fun h14 =>
  obind (pNilck (Tr.get .bad q0 fr)) fun v14 =>
  obind (pFa 2 v14) fun v15 =>
  obind (wSt1 v15 v10 h14) fun h17 =>
  chk v7 (rLd1 v6 h4) <|
  chk v8 (rLdN 6 (Tr.get .bad q5 fr) h4) <|
  k fr h17)
 (.reg fun call fr h k =>
  obind (pNilck (Tr.get .bad q0 fr)) fun v0 =>
  obind (pFa 3 v0) fun v1 =>
  obind (rLd1 v1 h) fun v2 =>
  obind (rLdN 6 (Tr.get .bad q5 fr) h) fun v3 =>
  call q131 [v3] h fun v4 h5 =>
  call q130 [v4] h5 fun v5 h6 =>
  obind2 (nBuildS (rep [.nils] 1) 1 1 none [(0, 1, v5)] h6) fun v6 h7 =>
  obind2 (nAppend 1 24 none v2 v6 h7) fun v7 h8 =>
  obind (pNilck (Tr.get .bad q0 fr)) fun v8 =>
  obind (pFa 3 v8) fun v9 =>
  obind (wSt1 v9 v7 h8) fun h11 =>
  chk v2 (rLd1 v1 h5) <|
  chk v2 (rLd1 v1 h6) <|
  k fr h11))), resF []⟩
theorem g74_ok : Comp Tryz.prog Tryz.f74 3 [5] g74 := ⟨_, [], rfl, by kernel_rfl, by decide, by kernel_rfl, by kernel_rfl, rfl, rfl⟩
/-- (*pianola/ram.Ram).even -/
def g75 : GFunc := ⟨3, (.seq (.reg fun _ fr h k =>
  forceG (.bool false) fun v => Tr.setK .bad v q6 fr fun f6 =>
  k f6 h)
 (.seq (.reg fun call fr h k =>
  obind (pEql (Tr.get .bad q2 fr) (.int .i64 (.ofNat 1))) fun v0 =>
  guardC v0 false h (fun k => k (Tr.get .bad q2 fr) h) fun v1 h2 =>
  guardC v0 false h2 (fun k => obind (pEql v1 (.int .i64 (.ofNat 2))) fun v => k v h2) fun v2 h3 =>
  obind (pPick v0 (.bool true) v2) fun v3 =>
  guardC v3 false h3 (fun k => k (Tr.get .bad q2 fr) h3) fun v4 h5 =>
  guardC v3 false h5 (fun k => obind (pEql v4 (.int .i64 (.ofNat 4))) fun v => k v h5) fun v5 h6 =>
  obind (pPick v3 (.bool true) v5) fun v6 =>
  guardC v6 true h6 (fun k => k (Tr.get .bad q1 fr) h6) fun v7 h8 =>
  guardC v6 true h8 (fun k => k (Tr.get .bad q2 fr) h8) fun v8 h9 =>
  guardC v6 true h9 (fun k => obind (pConv .u32 v8) fun v => k v h9) fun v9 h10 =>
  guardC v6 true h10 (fun k => obind (pRem v7 v9) fun v => k v h10) fun v10 h11 =>
  guardC v6 true h11 (fun k => obind (pEql v10 (.int .u32 (.ofNat 0))) fun v => k v h11) fun v11 h12 =>
  obind (pPick v6 v11 (.bool false)) fun v12 =>
  guardC v12 true h12 (fun k => k (Tr.get .bad q0 fr) h12) fun v13 h14 =>
  guardC v12 true h14 (fun k => k (Tr.get .bad q1 fr) h14) fun v14 h15 =>
  guardC v12 true h15 (fun k => k (Tr.get .bad q2 fr) h15) fun v15 h16 =>
  guardC v12 true h16 (fun k => call q77 [v13, v14, v15] h16 k) fun v16 h17 =>
  obind (pPick v12 v16 (.bool false)) fun v17 =>
  forceG v17 fun v => Tr.setK .bad v q6 fr fun f6 =>
  k f6 h17)
 .ret)), resF [.t 6]⟩
theorem g75_ok : Comp Tryz.prog Tryz.f75 3 [6] g75 := ⟨_, [.t 6], rfl, by kernel_rfl, by decide, by kernel_rfl, by kernel_rfl, rfl, rfl⟩
/-- (*pianola/ram.Ram).touch -/
def g76 : GFunc := ⟨3, (.seq (.seq (.reg fun _ fr h k =>
  obind (pLss (Tr.get .bad q2 fr) (.int .i64 (.ofNat 1))) fun v0 =>
  forceG v0 fun v => Tr.setK .bad v q8 fr fun f8 =>
  k f8 h)
 (.cond 8 q8 .ret
 .skip))
 (.seq (.reg fun _ fr h k =>
  obind (pConv .i64 (Tr.get .bad q1 fr)) fun v0 =>
  obind (pQuo v0 (.int .i64 (.ofNat 1024))) fun v1 =>
  forceG v1 fun v => Tr.setK .bad v q6 fr fun f6 =>
  k f6 h)
 (.block 0 (.loop (.seq (.seq (.reg fun _ fr h k =>
  obind (pConv .i64 (Tr.get .bad q1 fr)) fun v0 =>
  obind (pAdd v0 (Tr.get .bad q2 fr)) fun v1 =>
  obind (pSub v1 (.int .i64 (.ofNat 1))) fun v2 =>
  obind (pQuo v2 (.int .i64 (.ofNat 1024))) fun v3 =>
  obind (pLeq (Tr.get .bad q6 fr) v3) fun v4 =>
  forceG v4 fun v => Tr.setK .bad v q19 fr fun f19 =>
  k f19 h)
 (.cond 19 q19 .skip
 (.exit 0)))
 (.seq (.block 1 (.reg fun _ fr h k =>
  obind (pNilck (Tr.get .bad q0 fr)) fun v0 =>
  obind (pFa 2 v0) fun v1 =>
  obind (rLd1 v1 h) fun v2 =>
  obind (pNilck (Tr.get .bad q0 fr)) fun v3 =>
  obind (pFa 2 v3) fun v4 =>
  obind (rLd1 v4 h) fun v5 =>
  obind (pIdxS 1 v5 (Tr.get .bad q6 fr)) fun v6 =>
  obind (rLd1 v6 h) fun v7 =>
  guardC v7 false h (fun k => k (Tr.get .bad q0 fr) h) fun v8 h9 =>
  guardC v7 false h9 (fun k => obind (pNilck v8) fun v => k v h9) fun v9 h10 =>
  guardC v7 false h10 (fun k => obind (pFa 1 v9) fun v => k v h10) fun v10 h11 =>
  guardC v7 false h11 (fun k => obind (rLd1 v10 h11) fun v => k v h11) fun v11 h12 =>
  guardC v7 false h12 (fun k => k (Tr.get .bad q6 fr) h12) fun v12 h13 =>
  guardC v7 false h13 (fun k => obind (pIdxS 1 v11 v12) fun v => k v h13) fun v13 h14 =>
  guardC v7 false h14 (fun k => obind (rLd1 v13 h14) fun v => k v h14) fun v14 h15 =>
  obind (pPick v7 (.bool true) v14) fun v15 =>
  obind (pIdxS 1 v2 (Tr.get .bad q6 fr)) fun v16 =>
  obind (wSt1 v16 v15 h15) fun h18 =>
  k fr h18))
 (.reg fun _ fr h k =>
  obind (pAdd (Tr.get .bad q6 fr) (.int .i64 (.ofNat 1))) fun v0 =>
  forceG v0 fun v => Tr.setK .bad v q6 fr fun f6 =>
  k f6 h))))))), resF []⟩
theorem g76_ok : Comp Tryz.prog Tryz.f76 3 [6, 8, 19] g76 := ⟨_, [], rfl, by kernel_rfl, by decide, by kernel_rfl, by kernel_rfl, rfl, rfl⟩
/-- (*pianola/ram.Ram).there -/
def g77 : GFunc := ⟨3, (.seq (.reg fun _ fr h k =>
  forceG (.bool false) fun v => Tr.setK .bad v q6 fr fun f6 =>
  k f6 h)
 (.seq (.reg fun _ fr h k =>
  obind (pGeq (Tr.get .bad q2 fr) (.int .i64 (.ofNat 0))) fun v0 =>
  guardC v0 true h (fun k => k (Tr.get .bad q1 fr) h) fun v1 h2 =>
  guardC v0 true h2 (fun k => obind (pConv .i64 v1) fun v => k v h2) fun v2 h3 =>
  guardC v0 true h3 (fun k => k (Tr.get .bad q0 fr) h3) fun v3 h4 =>
  guardC v0 true h4 (fun k => obind (pNilck v3) fun v => k v h4) fun v4 h5 =>
  guardC v0 true h5 (fun k => obind (pFa 0 v4) fun v => k v h5) fun v5 h6 =>
  guardC v0 true h6 (fun k => obind (rLd1 v5 h6) fun v => k v h6) fun v6 h7 =>
  guardC v0 true h7 (fun k => obind (pLenS v6) fun v => k v h7) fun v7 h8 =>
  guardC v0 true h8 (fun k => obind (pLeq v2 v7) fun v => k v h8) fun v8 h9 =>
  obind (pPick v0 v8 (.bool false)) fun v9 =>
  guardC v9 true h9 (fun k => k (Tr.get .bad q2 fr) h9) fun v10 h11 =>
  guardC v9 true h11 (fun k => k (Tr.get .bad q0 fr) h11) fun v11 h12 =>
  guardC v9 true h12 (fun k => obind (pNilck v11) fun v => k v h12) fun v12 h13 =>
  guardC v9 true h13 (fun k => obind (pFa 0 v12) fun v => k v h13) fun v13 h14 =>
  guardC v9 true h14 (fun k => obind (rLd1 v13 h14) fun v => k v h14) fun v14 h15 =>
  guardC v9 true h15 (fun k => obind (pLenS v14) fun v => k v h15) fun v15 h16 =>
  guardC v9 true h16 (fun k => k (Tr.get .bad q1 fr) h16) fun v16 h17 =>
  guardC v9 true h17 (fun k => obind (pConv .i64 v16) fun v => k v h17) fun v17 h18 =>
  guardC v9 true h18 (fun k => obind (pSub v15 v17) fun v => k v h18) fun v18 h19 =>
  guardC v9 true h19 (fun k => obind (pLeq v10 v18) fun v => k v h19) fun v19 h20 =>
  obind (pPick v9 v19 (.bool false)) fun v20 =>
  forceG v20 fun v => Tr.setK .bad v q6 fr fun f6 =>
  k f6 h20)
 .ret)), resF [.t 6]⟩
theorem g77_ok : Comp Tryz.prog Tryz.f77 3 [6] g77 := ⟨_, [.t 6], rfl, by kernel_rfl, by decide, by kernel_rfl, by kernel_rfl, rfl, rfl⟩
end
end Go.Ev
