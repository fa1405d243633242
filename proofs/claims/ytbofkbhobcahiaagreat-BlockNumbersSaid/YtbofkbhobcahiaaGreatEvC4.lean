/- Ghost code of the Go functions, printed by a program of this session (genfiles.py). -/
import Derived.Test.YtbofkbhobcahiaaGreatEvComp
import Derived.Test.YtbofkbhobcahiaaGreatProg
namespace Go.Ev
open Go.Proofs
set_option maxRecDepth 100000
noncomputable section
/-- pianola/pianolaref1.Mul -/
def g156 : GFunc := ⟨3, (.seq (.reg fun _ fr h k =>
  forceG (.int .u32 (.ofNat 0)) fun v => Tr.setK .bad v q6 fr fun f6 =>
  forceG (.int .u32 (.ofNat 0)) fun v => Tr.setK .bad v q7 f6 fun f7 =>
  k f7 h)
 (.seq (.reg fun _ fr h k =>
  obind (pConv .u64 (Tr.get .bad q0 fr)) fun v0 =>
  obind (pConv .u64 (Tr.get .bad q1 fr)) fun v1 =>
  obind (pMul v0 v1) fun v2 =>
  forceG v2 fun v => Tr.setK .bad v q8 fr fun f8 =>
  k f8 h)
 (.seq (.reg fun _ fr h k =>
  obind (pShr (Tr.get .bad q8 fr) (.int .u64 (.ofNat 32))) fun v0 =>
  obind (pConv .u32 v0) fun v1 =>
  forceG v1 fun v => Tr.setK .bad v q9 fr fun f9 =>
  k f9 h)
 (.seq (.seq (.reg fun _ fr h k =>
  guardC (Tr.get .bad q2 fr) true h (fun k => k (Tr.get .bad q0 fr) h) fun v0 h1 =>
  guardC (Tr.get .bad q2 fr) true h1 (fun k => obind (pGeq v0 (.int .u32 (.ofNat 2147483648))) fun v => k v h1) fun v1 h2 =>
  obind (pPick (Tr.get .bad q2 fr) v1 (.bool false)) fun v2 =>
  forceG v2 fun v => Tr.setK .bad v q22 fr fun f22 =>
  k f22 h2)
 (.cond 22 q22 (.reg fun _ fr h k =>
  obind (pSub (Tr.get .bad q9 fr) (Tr.get .bad q1 fr)) fun v0 =>
  forceG v0 fun v => Tr.setK .bad v q9 fr fun f9 =>
  k f9 h)
 .skip))
 (.seq (.seq (.reg fun _ fr h k =>
  guardC (Tr.get .bad q2 fr) true h (fun k => k (Tr.get .bad q1 fr) h) fun v0 h1 =>
  guardC (Tr.get .bad q2 fr) true h1 (fun k => obind (pGeq v0 (.int .u32 (.ofNat 2147483648))) fun v => k v h1) fun v1 h2 =>
  obind (pPick (Tr.get .bad q2 fr) v1 (.bool false)) fun v2 =>
  forceG v2 fun v => Tr.setK .bad v q30 fr fun f30 =>
  k f30 h2)
 (.cond 30 q30 (.reg fun _ fr h k =>
  obind (pSub (Tr.get .bad q9 fr) (Tr.get .bad q0 fr)) fun v0 =>
  forceG v0 fun v => Tr.setK .bad v q9 fr fun f9 =>
  k f9 h)
 .skip))
 (.seq (.reg fun _ fr h k =>
  obind (pConv .u32 (Tr.get .bad q8 fr)) fun v0 =>
  forceG (Tr.get .bad q9 fr) fun v => Tr.setK .bad v q6 fr fun f6 =>
  forceG v0 fun v => Tr.setK .bad v q7 f6 fun f7 =>
  k f7 h)
 .ret)))))), resF [.t 6, .t 7]⟩
theorem g156_ok : Comp Tryz.prog Tryz.f156 3 [6, 7, 8, 9, 22, 30] g156 := ⟨_, [.t 6, .t 7], rfl, by kernel_rfl, by decide, by kernel_rfl, by kernel_rfl, rfl, rfl⟩
/-- pianola/pianolaref1.Clz -/
def g157 : GFunc := ⟨1, (.seq (.reg fun _ fr h k =>
  forceG (.int .i64 (.ofNat 0)) fun v => Tr.setK .bad v q2 fr fun f2 =>
  k f2 h)
 (.seq (.reg fun _ fr h k =>
  forceG (.int .i64 (.ofNat 0)) fun v => Tr.setK .bad v q3 fr fun f3 =>
  k f3 h)
 (.seq (.seq (.reg fun _ fr h k =>
  forceG (.int .i64 (.ofNat 31)) fun v => Tr.setK .bad v q4 fr fun f4 =>
  k f4 h)
 (.block 0 (.loop (.seq (.seq (.reg fun _ fr h k =>
  obind (pGeq (Tr.get .bad q4 fr) (.int .i64 (.ofNat 0))) fun v0 =>
  forceG v0 fun v => Tr.setK .bad v q6 fr fun f6 =>
  k f6 h)
 (.cond 6 q6 .skip
 (.exit 0)))
 (.seq (.block 1 (.seq (.seq (.reg fun _ fr h k =>
  obind (pConv .u64 (Tr.get .bad q4 fr)) fun v0 =>
  obind (pShr (Tr.get .bad q0 fr) v0) fun v1 =>
  obind (pAnd v1 (.int .u32 (.ofNat 1))) fun v2 =>
  obind (pEql v2 (.int .u32 (.ofNat 1))) fun v3 =>
  forceG v3 fun v => Tr.setK .bad v q14 fr fun f14 =>
  k f14 h)
 (.cond 14 q14 (.seq (.reg fun _ fr h k =>
  forceG (Tr.get .bad q3 fr) fun v => Tr.setK .bad v q2 fr fun f2 =>
  k f2 h)
 .ret)
 .skip))
 (.reg fun _ fr h k =>
  obind (pAdd (Tr.get .bad q3 fr) (.int .i64 (.ofNat 1))) fun v0 =>
  forceG v0 fun v => Tr.setK .bad v q3 fr fun f3 =>
  k f3 h)))
 (.reg fun _ fr h k =>
  obind (pSub (Tr.get .bad q4 fr) (.int .i64 (.ofNat 1))) fun v0 =>
  forceG v0 fun v => Tr.setK .bad v q4 fr fun f4 =>
  k f4 h))))))
 (.seq (.reg fun _ fr h k =>
  forceG (Tr.get .bad q3 fr) fun v => Tr.setK .bad v q2 fr fun f2 =>
  k f2 h)
 .ret)))), resF [.t 2]⟩
theorem g157_ok : Comp Tryz.prog Tryz.f157 1 [2, 3, 4, 6, 14] g157 := ⟨_, [.t 2], rfl, by kernel_rfl, by decide, by kernel_rfl, by kernel_rfl, rfl, rfl⟩
/-- pianola/pianolaref1.Clo -/
def g158 : GFunc := ⟨1, (.seq (.reg fun _ fr h k =>
  forceG (.int .i64 (.ofNat 0)) fun v => Tr.setK .bad v q2 fr fun f2 =>
  k f2 h)
 (.seq (.reg fun call fr h k =>
  obind (pCpl (Tr.get .bad q0 fr)) fun v0 =>
  call q157 [v0] h fun v1 h2 =>
  forceG v1 fun v => Tr.setK .bad v q2 fr fun f2 =>
  k f2 h2)
 .ret)), resF [.t 2]⟩
theorem g158_ok : Comp Tryz.prog Tryz.f158 1 [2] g158 := ⟨_, [.t 2], rfl, by kernel_rfl, by decide, by kernel_rfl, by kernel_rfl, rfl, rfl⟩
/-- pianola/pianolaref1.Div -/
def g159 : GFunc := ⟨3, (.seq (.reg fun _ fr h k =>
  forceG (.int .u32 (.ofNat 0)) fun v => Tr.setK .bad v q6 fr fun f6 =>
  forceG (.int .u32 (.ofNat 0)) fun v => Tr.setK .bad v q7 f6 fun f7 =>
  k f7 h)
 (.seq (.seq (.reg fun _ fr h k =>
  obind (pEql (Tr.get .bad q1 fr) (.int .u32 (.ofNat 0))) fun v0 =>
  forceG v0 fun v => Tr.setK .bad v q11 fr fun f11 =>
  k f11 h)
 (.cond 11 q11 (.seq (.reg fun _ fr h k =>
  forceG (.int .u32 (.ofNat 4294967295)) fun v => Tr.setK .bad v q6 fr fun f6 =>
  forceG (Tr.get .bad q0 fr) fun v => Tr.setK .bad v q7 f6 fun f7 =>
  k f7 h)
 .ret)
 .skip))
 (.seq (.reg fun call fr h k =>
  call q203 [(Tr.get .bad q0 fr), (Tr.get .bad q2 fr)] h fun v0 h1 =>
  call q203 [(Tr.get .bad q1 fr), (Tr.get .bad q2 fr)] h1 fun v1 h2 =>
  forceG v0 fun v => Tr.setK .bad v q8 fr fun f8 =>
  forceG v1 fun v => Tr.setK .bad v q9 f8 fun f9 =>
  k f9 h2)
 (.seq (.reg fun _ fr h k =>
  obind (pQuo (Tr.get .bad q8 fr) (Tr.get .bad q9 fr)) fun v0 =>
  obind (pConv .u32 v0) fun v1 =>
  obind (pRem (Tr.get .bad q8 fr) (Tr.get .bad q9 fr)) fun v2 =>
  obind (pConv .u32 v2) fun v3 =>
  forceG v1 fun v => Tr.setK .bad v q6 fr fun f6 =>
  forceG v3 fun v => Tr.setK .bad v q7 f6 fun f7 =>
  k f7 h)
 .ret)))), resF [.t 6, .t 7]⟩
theorem g159_ok : Comp Tryz.prog Tryz.f159 3 [6, 7, 8, 9, 11] g159 := ⟨_, [.t 6, .t 7], rfl, by kernel_rfl, by decide, by kernel_rfl, by kernel_rfl, rfl, rfl⟩
/-- pianola/pianolaref6.User -/
def g160 : GFunc := ⟨1, (.seq (.reg fun _ fr h k =>
  forceG (.bool false) fun v => Tr.setK .bad v q2 fr fun f2 =>
  k f2 h)
 (.seq (.reg fun _ fr h k =>
  obind (pNilck (Tr.get .bad q0 fr)) fun v0 =>
  obind (pFa 39 v0) fun v1 =>
  obind (pIdxA 16 1 v1 (.int .i64 (.ofNat 12))) fun v2 =>
  obind (rLd1 v2 h) fun v3 =>
  obind (pAnd v3 (.int .u32 (.ofNat 16))) fun v4 =>
  obind (pNeq v4 (.int .u32 (.ofNat 0))) fun v5 =>
  guardC v5 true h (fun k => k (Tr.get .bad q0 fr) h) fun v6 h7 =>
  guardC v5 true h7 (fun k => obind (pNilck v6) fun v => k v h7) fun v7 h8 =>
  guardC v5 true h8 (fun k => obind (pFa 39 v7) fun v => k v h8) fun v8 h9 =>
  guardC v5 true h9 (fun k => obind (pIdxA 16 1 v8 (.int .i64 (.ofNat 12))) fun v => k v h9) fun v9 h10 =>
  guardC v5 true h10 (fun k => obind (rLd1 v9 h10) fun v => k v h10) fun v10 h11 =>
  guardC v5 true h11 (fun k => obind (pAnd v10 (.int .u32 (.ofNat 2))) fun v => k v h11) fun v11 h12 =>
  guardC v5 true h12 (fun k => obind (pEql v11 (.int .u32 (.ofNat 0))) fun v => k v h12) fun v12 h13 =>
  obind (pPick v5 v12 (.bool false)) fun v13 =>
  forceG v13 fun v => Tr.setK .bad v q2 fr fun f2 =>
  k f2 h13)
 .ret)), resF [.t 2]⟩
theorem g160_ok : Comp Tryz.prog Tryz.f160 1 [2] g160 := ⟨_, [.t 2], rfl, by kernel_rfl, by decide, by kernel_rfl, by kernel_rfl, rfl, rfl⟩
/-- pianola/pianolaref4.Traps -/
def g161 : GFunc := ⟨3, (.seq (.reg fun _ fr h k =>
  obind2 (nBox (Tr.get .bad q0 fr) h) fun v0 h1 =>
  forceG v0 fun v => Tr.setK .bad v q3 fr fun f3 =>
  forceG (.bool false) fun v => Tr.setK .bad v q6 f3 fun f6 =>
  k f6 h1)
 (.seq (.seq (.reg fun _ fr h k =>
  obind (pFa 0 (Tr.get .bad q3 fr)) fun v0 =>
  obind (rLd1 v0 h) fun v1 =>
  forceG v1 fun v => Tr.setK .bad v q8 fr fun f8 =>
  k f8 h)
 (.block 0 (.seq (.seq (.reg fun _ fr h k =>
  obind (pEql (Tr.get .bad q8 fr) (.int .i64 (.ofNat 22))) fun v0 =>
  forceG v0 fun v => Tr.setK .bad v q9 fr fun f9 =>
  k f9 h)
 (.cond 9 q9 .skip
 (.reg fun _ fr h k =>
  obind (pEql (Tr.get .bad q8 fr) (.int .i64 (.ofNat 24))) fun v0 =>
  forceG v0 fun v => Tr.setK .bad v q9 fr fun f9 =>
  k f9 h)))
 (.cond 9 q9 (.seq (.reg fun call fr h k =>
  obind (pFa 0 (Tr.get .bad q3 fr)) fun v0 =>
  obind (rLd1 v0 h) fun v1 =>
  obind (pEql v1 (.int .i64 (.ofNat 24))) fun v2 =>
  call q204 [(Tr.get .bad q1 fr), (Tr.get .bad q2 fr), v2] h fun v3 h4 =>
  forceG v3 fun v => Tr.setK .bad v q6 fr fun f6 =>
  k f6 h4)
 .ret)
 (.seq (.reg fun _ fr h k =>
  obind (pEql (Tr.get .bad q8 fr) (.int .i64 (.ofNat 46))) fun v0 =>
  forceG v0 fun v => Tr.setK .bad v q18 fr fun f18 =>
  k f18 h)
 (.cond 18 q18 (.seq (.reg fun call fr h k =>
  obind (pFa 5 (Tr.get .bad q3 fr)) fun v0 =>
  obind (rLd1 v0 h) fun v1 =>
  call q165 [v1, (.int .i64 (.ofNat 16))] h fun v2 h3 =>
  call q204 [(Tr.get .bad q1 fr), v2, (.bool false)] h3 fun v3 h4 =>
  forceG v3 fun v => Tr.setK .bad v q6 fr fun f6 =>
  k f6 h4)
 .ret)
 (.seq (.reg fun _ fr h k =>
  obind (pEql (Tr.get .bad q8 fr) (.int .i64 (.ofNat 32))) fun v0 =>
  forceG v0 fun v => Tr.setK .bad v q25 fr fun f25 =>
  k f25 h)
 (.cond 25 q25 (.seq (.reg fun call fr h k =>
  call q155 [(Tr.get .bad q1 fr), (Tr.get .bad q2 fr), (.bool true)] h fun v0 h1 =>
  obind (pNot v0) fun v1 =>
  forceG v1 fun v => Tr.setK .bad v q6 fr fun f6 =>
  k f6 h1)
 .ret)
 (.seq (.reg fun _ fr h k =>
  obind (pEql (Tr.get .bad q8 fr) (.int .i64 (.ofNat 33))) fun v0 =>
  forceG v0 fun v => Tr.setK .bad v q31 fr fun f31 =>
  k f31 h)
 (.cond 31 q31 (.seq (.reg fun call fr h k =>
  call q155 [(Tr.get .bad q1 fr), (Tr.get .bad q2 fr), (.bool true)] h fun v0 h1 =>
  forceG v0 fun v => Tr.setK .bad v q6 fr fun f6 =>
  k f6 h1)
 .ret)
 (.seq (.reg fun _ fr h k =>
  obind (pEql (Tr.get .bad q8 fr) (.int .i64 (.ofNat 34))) fun v0 =>
  forceG v0 fun v => Tr.setK .bad v q36 fr fun f36 =>
  k f36 h)
 (.cond 36 q36 (.seq (.reg fun _ fr h k =>
  obind (pEql (Tr.get .bad q1 fr) (Tr.get .bad q2 fr)) fun v0 =>
  forceG v0 fun v => Tr.setK .bad v q6 fr fun f6 =>
  k f6 h)
 .ret)
 (.seq (.reg fun _ fr h k =>
  obind (pEql (Tr.get .bad q8 fr) (.int .i64 (.ofNat 35))) fun v0 =>
  forceG v0 fun v => Tr.setK .bad v q41 fr fun f41 =>
  k f41 h)
 (.cond 41 q41 (.seq (.reg fun _ fr h k =>
  obind (pNeq (Tr.get .bad q1 fr) (Tr.get .bad q2 fr)) fun v0 =>
  forceG v0 fun v => Tr.setK .bad v q6 fr fun f6 =>
  k f6 h)
 .ret)
 .skip))))))))))))))
 (.seq (.reg fun _ fr h k =>
  forceG (.bool false) fun v => Tr.setK .bad v q6 fr fun f6 =>
  k f6 h)
 .ret))), resF [.t 6]⟩
theorem g161_ok : Comp Tryz.prog Tryz.f161 3 [3, 6, 8, 9, 18, 25, 31, 36, 41] g161 := ⟨_, [.t 6], rfl, by kernel_rfl, by decide, by kernel_rfl, by kernel_rfl, rfl, rfl⟩
/-- pianola/pianolaref6.Enter -/
def g162 : GFunc := ⟨3, (.seq (.reg fun _ fr h k =>
  obind (pNilck (Tr.get .bad q0 fr)) fun v0 =>
  obind (pFa 39 v0) fun v1 =>
  obind (pIdxA 16 1 v1 (.int .i64 (.ofNat 12))) fun v2 =>
  obind (rLd1 v2 h) fun v3 =>
  obind (pAnd v3 (.int .u32 (.ofNat 2))) fun v4 =>
  obind (pNeq v4 (.int .u32 (.ofNat 0))) fun v5 =>
  forceG v5 fun v => Tr.setK .bad v q6 fr fun f6 =>
  k f6 h)
 (.seq (.seq (.reg fun _ fr h k =>
  obind (pNot (Tr.get .bad q6 fr)) fun v0 =>
  forceG v0 fun v => Tr.setK .bad v q15 fr fun f15 =>
  k f15 h)
 (.cond 15 q15 (.seq (.reg fun _ fr h k =>
  obind (pNilck (Tr.get .bad q0 fr)) fun v0 =>
  obind (pFa 34 v0) fun v1 =>
  obind (rLd1 v1 h) fun v2 =>
  obind (pNilck (Tr.get .bad q0 fr)) fun v3 =>
  obind (pFa 39 v3) fun v4 =>
  obind (pIdxA 16 1 v4 (.int .i64 (.ofNat 14))) fun v5 =>
  obind (wSt1 v5 v2 h) fun h7 =>
  k fr h7)
 (.seq (.reg fun _ fr h k =>
  obind (pNilck (Tr.get .bad q0 fr)) fun v0 =>
  obind (pFa 39 v0) fun v1 =>
  obind (pIdxA 16 1 v1 (.int .i64 (.ofNat 13))) fun v2 =>
  obind (rLd1 v2 h) fun v3 =>
  obind (pAndNot v3 (.int .u32 (.ofNat 2147483648))) fun v4 =>
  obind (pNilck (Tr.get .bad q0 fr)) fun v5 =>
  obind (pFa 39 v5) fun v6 =>
  obind (pIdxA 16 1 v6 (.int .i64 (.ofNat 13))) fun v7 =>
  obind (wSt1 v7 v4 h) fun h9 =>
  k fr h9)
 (.seq (.reg fun _ fr h k =>
  obind (pNilck (Tr.get .bad q0 fr)) fun v0 =>
  obind (pFa 36 v0) fun v1 =>
  obind (rLd1 v1 h) fun v2 =>
  forceG v2 fun v => Tr.setK .bad v q37 fr fun f37 =>
  k f37 h)
 (.cond 37 q37 (.seq (.reg fun _ fr h k =>
  obind (pNilck (Tr.get .bad q0 fr)) fun v0 =>
  obind (pFa 34 v0) fun v1 =>
  obind (rLd1 v1 h) fun v2 =>
  obind (pSub v2 (.int .u32 (.ofNat 4))) fun v3 =>
  obind (pNilck (Tr.get .bad q0 fr)) fun v4 =>
  obind (pFa 39 v4) fun v5 =>
  obind (pIdxA 16 1 v5 (.int .i64 (.ofNat 14))) fun v6 =>
  obind (wSt1 v6 v3 h) fun h8 =>
  k fr h8)
 (.reg fun _ fr h k =>
  obind (pNilck (Tr.get .bad q0 fr)) fun v0 =>
  obind (pFa 39 v0) fun v1 =>
  obind (pIdxA 16 1 v1 (.int .i64 (.ofNat 13))) fun v2 =>
  obind (rLd1 v2 h) fun v3 =>
  obind (pOr v3 (.int .u32 (.ofNat 2147483648))) fun v4 =>
  obind (pNilck (Tr.get .bad q0 fr)) fun v5 =>
  obind (pFa 39 v5) fun v6 =>
  obind (pIdxA 16 1 v6 (.int .i64 (.ofNat 13))) fun v7 =>
  obind (wSt1 v7 v4 h) fun h9 =>
  k fr h9))
 .skip))))
 .skip))
 (.seq (.reg fun _ fr h k =>
  obind (pNilck (Tr.get .bad q0 fr)) fun v0 =>
  obind (pFa 39 v0) fun v1 =>
  obind (pIdxA 16 1 v1 (.int .i64 (.ofNat 13))) fun v2 =>
  obind (rLd1 v2 h) fun v3 =>
  obind (pAndNot v3 (.int .u32 (.ofNat 124))) fun v4 =>
  obind (pConv .u32 (Tr.get .bad q1 fr)) fun v5 =>
  obind (pShl v5 (.int .u64 (.ofNat 2))) fun v6 =>
  obind (pAnd v6 (.int .u32 (.ofNat 124))) fun v7 =>
  obind (pOr v4 v7) fun v8 =>
  obind (pNilck (Tr.get .bad q0 fr)) fun v9 =>
  obind (pFa 39 v9) fun v10 =>
  obind (pIdxA 16 1 v10 (.int .i64 (.ofNat 13))) fun v11 =>
  obind (wSt1 v11 v8 h) fun h13 =>
  k fr h13)
 (.seq (.reg fun _ fr h k =>
  obind (pNilck (Tr.get .bad q0 fr)) fun v0 =>
  obind (pFa 39 v0) fun v1 =>
  obind (pIdxA 16 1 v1 (.int .i64 (.ofNat 12))) fun v2 =>
  obind (rLd1 v2 h) fun v3 =>
  obind (pOr v3 (.int .u32 (.ofNat 2))) fun v4 =>
  obind (pNilck (Tr.get .bad q0 fr)) fun v5 =>
  obind (pFa 39 v5) fun v6 =>
  obind (pIdxA 16 1 v6 (.int .i64 (.ofNat 12))) fun v7 =>
  obind (wSt1 v7 v4 h) fun h9 =>
  k fr h9)
 (.seq (.reg fun _ fr h k =>
  obind (pNilck (Tr.get .bad q0 fr)) fun v0 =>
  obind (pFa 34 v0) fun v1 =>
  obind (wSt1 v1 (.int .u32 (.ofNat 2147484032)) h) fun h3 =>
  k fr h3)
 (.seq (.seq (.reg fun _ fr h k =>
  guardC (Tr.get .bad q2 fr) true h (fun k => k (Tr.get .bad q6 fr) h) fun v0 h1 =>
  guardC (Tr.get .bad q2 fr) true h1 (fun k => obind (pNot v0) fun v => k v h1) fun v1 h2 =>
  obind (pPick (Tr.get .bad q2 fr) v1 (.bool false)) fun v2 =>
  forceG v2 fun v => Tr.setK .bad v q89 fr fun f89 =>
  k f89 h2)
 (.cond 89 q89 (.reg fun _ fr h k =>
  obind (pNilck (Tr.get .bad q0 fr)) fun v0 =>
  obind (pFa 34 v0) fun v1 =>
  obind (wSt1 v1 (.int .u32 (.ofNat 2147483648)) h) fun h3 =>
  k fr h3)
 .skip))
 (.reg fun _ fr h k =>
  obind (pNilck (Tr.get .bad q0 fr)) fun v0 =>
  obind (pFa 34 v0) fun v1 =>
  obind (rLd1 v1 h) fun v2 =>
  obind (pAdd v2 (.int .u32 (.ofNat 4))) fun v3 =>
  obind (pNilck (Tr.get .bad q0 fr)) fun v4 =>
  obind (pFa 35 v4) fun v5 =>
  obind (wSt1 v5 v3 h) fun h7 =>
  obind (pNilck (Tr.get .bad q0 fr)) fun v7 =>
  obind (pFa 36 v7) fun v8 =>
  obind (wSt1 v8 (.bool false) h7) fun h10 =>
  k fr h10))))))), resF []⟩
theorem g162_ok : Comp Tryz.prog Tryz.f162 3 [6, 15, 37, 89] g162 := ⟨_, [], rfl, by kernel_rfl, by decide, by kernel_rfl, by kernel_rfl, rfl, rfl⟩
/-- pianola/pianolaref17.size -/
def g163 : GFunc := ⟨1, (.seq (.reg fun _ fr h k =>
  forceG (.int .i64 (.ofNat 0)) fun v => Tr.setK .bad v q2 fr fun f2 =>
  k f2 h)
 (.seq (.seq (.reg fun _ fr h k =>
  forceG (Tr.get .bad q0 fr) fun v => Tr.setK .bad v q3 fr fun f3 =>
  k f3 h)
 (.block 0 (.seq (.seq (.reg fun _ fr h k =>
  obind (pEql (Tr.get .bad q3 fr) (.int .i64 (.ofNat 66))) fun v0 =>
  forceG v0 fun v => Tr.setK .bad v q4 fr fun f4 =>
  k f4 h)
 (.cond 4 q4 .skip
 (.seq (.reg fun _ fr h k =>
  obind (pEql (Tr.get .bad q3 fr) (.int .i64 (.ofNat 69))) fun v0 =>
  forceG v0 fun v => Tr.setK .bad v q4 fr fun f4 =>
  k f4 h)
 (.cond 4 q4 .skip
 (.reg fun _ fr h k =>
  obind (pEql (Tr.get .bad q3 fr) (.int .i64 (.ofNat 71))) fun v0 =>
  forceG v0 fun v => Tr.setK .bad v q4 fr fun f4 =>
  k f4 h)))))
 (.cond 4 q4 (.seq (.reg fun _ fr h k =>
  forceG (.int .i64 (.ofNat 1)) fun v => Tr.setK .bad v q2 fr fun f2 =>
  k f2 h)
 .ret)
 (.seq (.seq (.reg fun _ fr h k =>
  obind (pEql (Tr.get .bad q3 fr) (.int .i64 (.ofNat 67))) fun v0 =>
  forceG v0 fun v => Tr.setK .bad v q8 fr fun f8 =>
  k f8 h)
 (.cond 8 q8 .skip
 (.seq (.reg fun _ fr h k =>
  obind (pEql (Tr.get .bad q3 fr) (.int .i64 (.ofNat 70))) fun v0 =>
  forceG v0 fun v => Tr.setK .bad v q8 fr fun f8 =>
  k f8 h)
 (.cond 8 q8 .skip
 (.reg fun _ fr h k =>
  obind (pEql (Tr.get .bad q3 fr) (.int .i64 (.ofNat 72))) fun v0 =>
  forceG v0 fun v => Tr.setK .bad v q8 fr fun f8 =>
  k f8 h)))))
 (.cond 8 q8 (.seq (.reg fun _ fr h k =>
  forceG (.int .i64 (.ofNat 2)) fun v => Tr.setK .bad v q2 fr fun f2 =>
  k f2 h)
 .ret)
 .skip))))))
 (.seq (.reg fun _ fr h k =>
  forceG (.int .i64 (.ofNat 4)) fun v => Tr.setK .bad v q2 fr fun f2 =>
  k f2 h)
 .ret))), resF [.t 2]⟩
theorem g163_ok : Comp Tryz.prog Tryz.f163 1 [2, 3, 4, 8] g163 := ⟨_, [.t 2], rfl, by kernel_rfl, by decide, by kernel_rfl, by kernel_rfl, rfl, rfl⟩
/-- (*pianola/pianolaref17.Machine).lies -/
def g164 : GFunc := ⟨4, (.seq (.reg fun _ fr h k =>
  forceG (.int .u32 (.ofNat 0)) fun v => Tr.setK .bad v q8 fr fun f8 =>
  forceG (.int .i64 (.ofNat 0)) fun v => Tr.setK .bad v q9 f8 fun f9 =>
  k f9 h)
 (.seq (.reg fun call fr h k =>
  obind (pNilck (Tr.get .bad q0 fr)) fun v0 =>
  obind (pFa 0 v0) fun v1 =>
  call q205 [v1, (Tr.get .bad q1 fr), (Tr.get .bad q2 fr), (Tr.get .bad q3 fr)] h fun v2 h3 =>
  obind (pExt 0 v2) fun v3 =>
  obind (pExt 1 v2) fun v4 =>
  obind (pExt 2 v2) fun v5 =>
  forceG v3 fun v => Tr.setK .bad v q10 fr fun f10 =>
  forceG v4 fun v => Tr.setK .bad v q11 f10 fun f11 =>
  forceG v5 fun v => Tr.setK .bad v q12 f11 fun f12 =>
  k f12 h3)
 (.seq (.seq (.reg fun _ fr h k =>
  obind (pGeq (Tr.get .bad q11 fr) (.int .i64 (.ofNat 0))) fun v0 =>
  forceG v0 fun v => Tr.setK .bad v q25 fr fun f25 =>
  k f25 h)
 (.cond 25 q25 (.seq (.reg fun call fr h k =>
  obind (pNilck (Tr.get .bad q0 fr)) fun v0 =>
  obind (pFa 0 v0) fun v1 =>
  obind (pNeq (Tr.get .bad q11 fr) (.int .i64 (.ofNat 4))) fun v2 =>
  guardC v2 true h (fun k => k (Tr.get .bad q11 fr) h) fun v3 h4 =>
  guardC v2 true h4 (fun k => obind (pNeq v3 (.int .i64 (.ofNat 5))) fun v => k v h4) fun v4 h5 =>
  obind (pPick v2 v4 (.bool false)) fun v5 =>
  call q206 [v1, (Tr.get .bad q1 fr), v5] h5 fun _ h7 =>
  k fr h7)
 (.seq (.reg fun call fr h k =>
  call q117 [(Tr.get .bad q0 fr), (Tr.get .bad q11 fr), (Tr.get .bad q12 fr)] h fun v0 h1 =>
  forceG (.int .u32 (.ofNat 0)) fun v => Tr.setK .bad v q8 fr fun f8 =>
  forceG v0 fun v => Tr.setK .bad v q9 f8 fun f9 =>
  k f9 h1)
 .ret))
 .skip))
 (.seq (.reg fun _ fr h k =>
  forceG (Tr.get .bad q10 fr) fun v => Tr.setK .bad v q8 fr fun f8 =>
  forceG (.int .i64 (.negSucc 0)) fun v => Tr.setK .bad v q9 f8 fun f9 =>
  k f9 h)
 .ret)))), resF [.t 8, .t 9]⟩
theorem g164_ok : Comp Tryz.prog Tryz.f164 4 [8, 9, 10, 11, 12, 25] g164 := ⟨_, [.t 8, .t 9], rfl, by kernel_rfl, by decide, by kernel_rfl, by kernel_rfl, rfl, rfl⟩
/-- pianola/pianolaref1.Sign -/
def g165 : GFunc := ⟨2, (.seq (.reg fun _ fr h k =>
  forceG (.int .u32 (.ofNat 0)) fun v => Tr.setK .bad v q4 fr fun f4 =>
  k f4 h)
 (.seq (.seq (.reg fun _ fr h k =>
  obind (pLss (Tr.get .bad q1 fr) (.int .i64 (.ofNat 1))) fun v0 =>
  forceG v0 fun v => Tr.setK .bad v q7 fr fun f7 =>
  k f7 h)
 (.cond 7 q7 (.seq (.reg fun _ fr h k =>
  forceG (.int .u32 (.ofNat 0)) fun v => Tr.setK .bad v q4 fr fun f4 =>
  k f4 h)
 .ret)
 .skip))
 (.seq (.seq (.reg fun _ fr h k =>
  obind (pGtr (Tr.get .bad q1 fr) (.int .i64 (.ofNat 31))) fun v0 =>
  forceG v0 fun v => Tr.setK .bad v q9 fr fun f9 =>
  k f9 h)
 (.cond 9 q9 (.seq (.reg fun _ fr h k =>
  forceG (Tr.get .bad q0 fr) fun v => Tr.setK .bad v q4 fr fun f4 =>
  k f4 h)
 .ret)
 .skip))
 (.seq (.reg fun _ fr h k =>
  obind (pConv .u64 (Tr.get .bad q1 fr)) fun v0 =>
  obind (pShl (.int .u32 (.ofNat 1)) v0) fun v1 =>
  obind (pSub v1 (.int .u32 (.ofNat 1))) fun v2 =>
  obind (pAnd (Tr.get .bad q0 fr) v2) fun v3 =>
  forceG v3 fun v => Tr.setK .bad v q5 fr fun f5 =>
  k f5 h)
 (.seq (.seq (.reg fun _ fr h k =>
  obind (pSub (Tr.get .bad q1 fr) (.int .i64 (.ofNat 1))) fun v0 =>
  obind (pConv .u64 v0) fun v1 =>
  obind (pShr (Tr.get .bad q5 fr) v1) fun v2 =>
  obind (pEql v2 (.int .u32 (.ofNat 1))) fun v3 =>
  forceG v3 fun v => Tr.setK .bad v q22 fr fun f22 =>
  k f22 h)
 (.cond 22 q22 (.seq (.reg fun _ fr h k =>
  obind (pConv .u64 (Tr.get .bad q1 fr)) fun v0 =>
  obind (pShl (.int .u32 (.ofNat 1)) v0) fun v1 =>
  obind (pSub (Tr.get .bad q5 fr) v1) fun v2 =>
  forceG v2 fun v => Tr.setK .bad v q4 fr fun f4 =>
  k f4 h)
 .ret)
 .skip))
 (.seq (.reg fun _ fr h k =>
  forceG (Tr.get .bad q5 fr) fun v => Tr.setK .bad v q4 fr fun f4 =>
  k f4 h)
 .ret)))))), resF [.t 4]⟩
theorem g165_ok : Comp Tryz.prog Tryz.f165 2 [4, 5, 7, 9, 22] g165 := ⟨_, [.t 4], rfl, by kernel_rfl, by decide, by kernel_rfl, by kernel_rfl, rfl, rfl⟩
/-- (*pianola/pianolaref17.Machine).put -/
def g166 : GFunc := ⟨3, (.seq (.reg fun _ fr h k =>
  obind (pGtr (Tr.get .bad q1 fr) (.int .i64 (.ofNat 0))) fun v0 =>
  guardC v0 true h (fun k => k (Tr.get .bad q1 fr) h) fun v1 h2 =>
  guardC v0 true h2 (fun k => obind (pLss v1 (.int .i64 (.ofNat 32))) fun v => k v h2) fun v2 h3 =>
  obind (pPick v0 v2 (.bool false)) fun v3 =>
  forceG v3 fun v => Tr.setK .bad v q11 fr fun f11 =>
  k f11 h3)
 (.cond 11 q11 (.reg fun _ fr h k =>
  obind (pNilck (Tr.get .bad q0 fr)) fun v0 =>
  obind (pFa 0 v0) fun v1 =>
  obind (pFa 0 v1) fun v2 =>
  obind (pIdxA 32 1 v2 (Tr.get .bad q1 fr)) fun v3 =>
  obind (wSt1 v3 (Tr.get .bad q2 fr) h) fun h5 =>
  k fr h5)
 .skip)), resF []⟩
theorem g166_ok : Comp Tryz.prog Tryz.f166 3 [11] g166 := ⟨_, [], rfl, by kernel_rfl, by decide, by kernel_rfl, by kernel_rfl, rfl, rfl⟩
/-- pianola/pianolaref6.Read -/
def g167 : GFunc := ⟨2, (.seq (.reg fun _ fr h k =>
  forceG (.int .u32 (.ofNat 0)) fun v => Tr.setK .bad v q4 fr fun f4 =>
  k f4 h)
 (.seq (.seq (.reg fun _ fr h k =>
  obind (pEql (Tr.get .bad q1 fr) (.int .i64 (.ofNat 1))) fun v0 =>
  forceG v0 fun v => Tr.setK .bad v q6 fr fun f6 =>
  k f6 h)
 (.cond 6 q6 (.seq (.reg fun _ fr h k =>
  obind (pNilck (Tr.get .bad q0 fr)) fun v0 =>
  obind (pFa 39 v0) fun v1 =>
  obind (pIdxA 16 1 v1 (.int .i64 (.ofNat 9))) fun v2 =>
  obind (rLd1 v2 h) fun v3 =>
  obind (pRem v3 (.int .u32 (.ofNat 8))) fun v4 =>
  forceG v4 fun v => Tr.setK .bad v q4 fr fun f4 =>
  k f4 h)
 .ret)
 .skip))
 (.seq (.seq (.reg fun call fr h k =>
  call q207 [(Tr.get .bad q1 fr)] h fun v0 h1 =>
  obind (pNot v0) fun v1 =>
  forceG v1 fun v => Tr.setK .bad v q15 fr fun f15 =>
  k f15 h1)
 (.cond 15 q15 (.seq (.reg fun _ fr h k =>
  forceG (.int .u32 (.ofNat 0)) fun v => Tr.setK .bad v q4 fr fun f4 =>
  k f4 h)
 .ret)
 .skip))
 (.seq (.reg fun _ fr h k =>
  obind (pNilck (Tr.get .bad q0 fr)) fun v0 =>
  obind (pFa 39 v0) fun v1 =>
  obind (pIdxA 16 1 v1 (Tr.get .bad q1 fr)) fun v2 =>
  obind (rLd1 v2 h) fun v3 =>
  forceG v3 fun v => Tr.setK .bad v q4 fr fun f4 =>
  k f4 h)
 .ret)))), resF [.t 4]⟩
theorem g167_ok : Comp Tryz.prog Tryz.f167 2 [4, 6, 15] g167 := ⟨_, [.t 4], rfl, by kernel_rfl, by decide, by kernel_rfl, by kernel_rfl, rfl, rfl⟩
/-- pianola/pianolaref6.Write -/
def g168 : GFunc := ⟨3, (.seq (.reg fun _ fr h k =>
  forceG (Tr.get .bad q1 fr) fun v => Tr.setK .bad v q6 fr fun f6 =>
  k f6 h)
 (.block 0 (.seq (.reg fun _ fr h k =>
  obind (pEql (Tr.get .bad q6 fr) (.int .i64 (.ofNat 0))) fun v0 =>
  forceG v0 fun v => Tr.setK .bad v q7 fr fun f7 =>
  k f7 h)
 (.cond 7 q7 (.reg fun _ fr h k =>
  obind (pAnd (Tr.get .bad q2 fr) (.int .u32 (.ofNat 7))) fun v0 =>
  obind (pNilck (Tr.get .bad q0 fr)) fun v1 =>
  obind (pFa 39 v1) fun v2 =>
  obind (pIdxA 16 1 v2 (Tr.get .bad q1 fr)) fun v3 =>
  obind (wSt1 v3 v0 h) fun h5 =>
  k fr h5)
 (.seq (.reg fun _ fr h k =>
  obind (pEql (Tr.get .bad q6 fr) (.int .i64 (.ofNat 2))) fun v0 =>
  forceG v0 fun v => Tr.setK .bad v q16 fr fun f16 =>
  k f16 h)
 (.cond 16 q16 (.reg fun _ fr h k =>
  obind (pAnd (Tr.get .bad q2 fr) (.int .u32 (.ofNat 4294966279))) fun v0 =>
  obind (pNilck (Tr.get .bad q0 fr)) fun v1 =>
  obind (pFa 39 v1) fun v2 =>
  obind (pIdxA 16 1 v2 (Tr.get .bad q1 fr)) fun v3 =>
  obind (wSt1 v3 v0 h) fun h5 =>
  k fr h5)
 (.seq (.reg fun _ fr h k =>
  obind (pEql (Tr.get .bad q6 fr) (.int .i64 (.ofNat 10))) fun v0 =>
  forceG v0 fun v => Tr.setK .bad v q25 fr fun f25 =>
  k f25 h)
 (.cond 25 q25 (.reg fun _ fr h k =>
  obind (pAnd (Tr.get .bad q2 fr) (.int .u32 (.ofNat 4294966527))) fun v0 =>
  obind (pNilck (Tr.get .bad q0 fr)) fun v1 =>
  obind (pFa 39 v1) fun v2 =>
  obind (pIdxA 16 1 v2 (Tr.get .bad q1 fr)) fun v3 =>
  obind (wSt1 v3 v0 h) fun h5 =>
  k fr h5)
 (.seq (.seq (.reg fun _ fr h k =>
  obind (pEql (Tr.get .bad q6 fr) (.int .i64 (.ofNat 9))) fun v0 =>
  forceG v0 fun v => Tr.setK .bad v q34 fr fun f34 =>
  k f34 h)
 (.cond 34 q34 .skip
 (.reg fun _ fr h k =>
  obind (pEql (Tr.get .bad q6 fr) (.int .i64 (.ofNat 14))) fun v0 =>
  forceG v0 fun v => Tr.setK .bad v q34 fr fun f34 =>
  k f34 h)))
 (.cond 34 q34 (.reg fun _ fr h k =>
  obind (pNilck (Tr.get .bad q0 fr)) fun v0 =>
  obind (pFa 39 v0) fun v1 =>
  obind (pIdxA 16 1 v1 (Tr.get .bad q1 fr)) fun v2 =>
  obind (wSt1 v2 (Tr.get .bad q2 fr) h) fun h4 =>
  k fr h4)
 (.seq (.reg fun _ fr h k =>
  obind (pEql (Tr.get .bad q6 fr) (.int .i64 (.ofNat 11))) fun v0 =>
  forceG v0 fun v => Tr.setK .bad v q43 fr fun f43 =>
  k f43 h)
 (.cond 43 q43 (.seq (.reg fun _ fr h k =>
  obind (pNilck (Tr.get .bad q0 fr)) fun v0 =>
  obind (pFa 39 v0) fun v1 =>
  obind (pIdxA 16 1 v1 (Tr.get .bad q1 fr)) fun v2 =>
  obind (wSt1 v2 (Tr.get .bad q2 fr) h) fun h4 =>
  k fr h4)
 (.reg fun _ fr h k =>
  obind (pNilck (Tr.get .bad q0 fr)) fun v0 =>
  obind (pFa 39 v0) fun v1 =>
  obind (pIdxA 16 1 v1 (.int .i64 (.ofNat 13))) fun v2 =>
  obind (rLd1 v2 h) fun v3 =>
  obind (pAndNot v3 (.int .u32 (.ofNat 32768))) fun v4 =>
  obind (pNilck (Tr.get .bad q0 fr)) fun v5 =>
  obind (pFa 39 v5) fun v6 =>
  obind (pIdxA 16 1 v6 (.int .i64 (.ofNat 13))) fun v7 =>
  obind (wSt1 v7 v4 h) fun h9 =>
  k fr h9))
 (.seq (.reg fun _ fr h k =>
  obind (pEql (Tr.get .bad q6 fr) (.int .i64 (.ofNat 12))) fun v0 =>
  forceG v0 fun v => Tr.setK .bad v q61 fr fun f61 =>
  k f61 h)
 (.cond 61 q61 (.reg fun _ fr h k =>
  obind (pAnd (Tr.get .bad q2 fr) (.int .u32 (.ofNat 65299))) fun v0 =>
  obind (pNilck (Tr.get .bad q0 fr)) fun v1 =>
  obind (pFa 39 v1) fun v2 =>
  obind (pIdxA 16 1 v2 (Tr.get .bad q1 fr)) fun v3 =>
  obind (wSt1 v3 v0 h) fun h5 =>
  k fr h5)
 (.seq (.reg fun _ fr h k =>
  obind (pEql (Tr.get .bad q6 fr) (.int .i64 (.ofNat 13))) fun v0 =>
  forceG v0 fun v => Tr.setK .bad v q70 fr fun f70 =>
  k f70 h)
 (.cond 70 q70 (.reg fun _ fr h k =>
  obind (pNilck (Tr.get .bad q0 fr)) fun v0 =>
  obind (pFa 39 v0) fun v1 =>
  obind (pIdxA 16 1 v1 (Tr.get .bad q1 fr)) fun v2 =>
  obind (rLd1 v2 h) fun v3 =>
  obind (pAndNot v3 (.int .u32 (.ofNat 768))) fun v4 =>
  obind (pAnd (Tr.get .bad q2 fr) (.int .u32 (.ofNat 768))) fun v5 =>
  obind (pOr v4 v5) fun v6 =>
  obind (pNilck (Tr.get .bad q0 fr)) fun v7 =>
  obind (pFa 39 v7) fun v8 =>
  obind (pIdxA 16 1 v8 (Tr.get .bad q1 fr)) fun v9 =>
  obind (wSt1 v9 v6 h) fun h11 =>
  k fr h11)
 .skip)))))))))))))))), resF []⟩
theorem g168_ok : Comp Tryz.prog Tryz.f168 3 [6, 7, 16, 25, 34, 43, 61, 70] g168 := ⟨_, [], rfl, by kernel_rfl, by decide, by kernel_rfl, by kernel_rfl, rfl, rfl⟩
/-- pianola/pianolaref6.Get -/
def g169 : GFunc := ⟨1, (.seq (.reg fun _ fr h k =>
  obind (pNilck (Tr.get .bad q0 fr)) fun v0 =>
  obind (pFa 39 v0) fun v1 =>
  obind (pIdxA 16 1 v1 (.int .i64 (.ofNat 0))) fun v2 =>
  obind (rLd1 v2 h) fun v3 =>
  obind (pAnd v3 (.int .u32 (.ofNat 7))) fun v4 =>
  obind (pNilck (Tr.get .bad q0 fr)) fun v5 =>
  obind (pFa 55 v5) fun v6 =>
  obind (pIdxA 8 2 v6 v4) fun v7 =>
  obind (rLdN 2 v7 h) fun v8 =>
  obind2 (nAlloc [.int .u32 (.ofNat 0), .int .u32 (.ofNat 0)] h) fun v9 h10 =>
  obind (wStN 2 v9 v8 h10) fun h11 =>
  forceG v9 fun v => Tr.setK .bad v q2 fr fun f2 =>
  k f2 h11)
 (.seq (.reg fun call fr h k =>
  obind (pFa 0 (Tr.get .bad q2 fr)) fun v0 =>
  obind (rLd1 v0 h) fun v1 =>
  call q168 [(Tr.get .bad q0 fr), (.int .i64 (.ofNat 10)), v1] h fun _ h3 =>
  k fr h3)
 (.reg fun call fr h k =>
  obind (pFa 1 (Tr.get .bad q2 fr)) fun v0 =>
  obind (rLd1 v0 h) fun v1 =>
  call q168 [(Tr.get .bad q0 fr), (.int .i64 (.ofNat 2)), v1] h fun _ h3 =>
  k fr h3))), resF []⟩
theorem g169_ok : Comp Tryz.prog Tryz.f169 1 [2] g169 := ⟨_, [], rfl, by kernel_rfl, by decide, by kernel_rfl, by kernel_rfl, rfl, rfl⟩
/-- pianola/pianolaref6.Put -/
def g170 : GFunc := ⟨2, (.seq (.reg fun _ fr h k =>
  obind (pNilck (Tr.get .bad q0 fr)) fun v0 =>
  obind (pFa 39 v0) fun v1 =>
  obind (pIdxA 16 1 v1 (.int .i64 (.ofNat 0))) fun v2 =>
  obind (rLd1 v2 h) fun v3 =>
  obind (pAnd v3 (.int .u32 (.ofNat 7))) fun v4 =>
  forceG v4 fun v => Tr.setK .bad v q4 fr fun f4 =>
  k f4 h)
 (.seq (.seq (.reg fun _ fr h k =>
  forceG (Tr.get .bad q1 fr) fun v => Tr.setK .bad v q11 fr fun f11 =>
  k f11 h)
 (.cond 11 q11 (.reg fun call fr h k =>
  call q167 [(Tr.get .bad q0 fr), (.int .i64 (.ofNat 1))] h fun v0 h1 =>
  forceG v0 fun v => Tr.setK .bad v q4 fr fun f4 =>
  k f4 h1)
 .skip))
 (.reg fun _ fr h k =>
  obind (pNilck (Tr.get .bad q0 fr)) fun v0 =>
  obind (pFa 39 v0) fun v1 =>
  obind (pIdxA 16 1 v1 (.int .i64 (.ofNat 10))) fun v2 =>
  obind (rLd1 v2 h) fun v3 =>
  obind (pNilck (Tr.get .bad q0 fr)) fun v4 =>
  obind (pFa 39 v4) fun v5 =>
  obind (pIdxA 16 1 v5 (.int .i64 (.ofNat 2))) fun v6 =>
  obind (rLd1 v6 h) fun v7 =>
  obind (pBuild [.int .u32 (.ofNat 0), .int .u32 (.ofNat 0)] [(0, 1, v3), (1, 1, v7)]) fun v8 =>
  obind (pNilck (Tr.get .bad q0 fr)) fun v9 =>
  obind (pFa 55 v9) fun v10 =>
  obind (pIdxA 8 2 v10 (Tr.get .bad q4 fr)) fun v11 =>
  obind (wStN 2 v11 v8 h) fun h13 =>
  k fr h13))), resF []⟩
theorem g170_ok : Comp Tryz.prog Tryz.f170 2 [4, 11] g170 := ⟨_, [], rfl, by kernel_rfl, by decide, by kernel_rfl, by kernel_rfl, rfl, rfl⟩
/-- pianola/pianolaref6.Probe -/
def g171 : GFunc := ⟨1, (.seq (.reg fun _ fr h k =>
  obind (pNilck (Tr.get .bad q0 fr)) fun v0 =>
  obind (pFa 39 v0) fun v1 =>
  obind (pIdxA 16 1 v1 (.int .i64 (.ofNat 0))) fun v2 =>
  obind (wSt1 v2 (.int .u32 (.ofNat 2147483648)) h) fun h4 =>
  k fr h4)
 (.seq (.reg fun call fr h k =>
  obind (pNilck (Tr.get .bad q0 fr)) fun v0 =>
  obind (pFa 39 v0) fun v1 =>
  obind (pIdxA 16 1 v1 (.int .i64 (.ofNat 10))) fun v2 =>
  obind (rLd1 v2 h) fun v3 =>
  call q208 [(Tr.get .bad q0 fr), v3] h fun v4 h5 =>
  forceG v4 fun v => Tr.setK .bad v q2 fr fun f2 =>
  k f2 h5)
 (.seq (.reg fun _ fr h k =>
  obind (pGeq (Tr.get .bad q2 fr) (.int .i64 (.ofNat 0))) fun v0 =>
  forceG v0 fun v => Tr.setK .bad v q15 fr fun f15 =>
  k f15 h)
 (.cond 15 q15 (.reg fun _ fr h k =>
  obind (pConv .u32 (Tr.get .bad q2 fr)) fun v0 =>
  obind (pNilck (Tr.get .bad q0 fr)) fun v1 =>
  obind (pFa 39 v1) fun v2 =>
  obind (pIdxA 16 1 v2 (.int .i64 (.ofNat 0))) fun v3 =>
  obind (wSt1 v3 v0 h) fun h5 =>
  k fr h5)
 .skip)))), resF []⟩
theorem g171_ok : Comp Tryz.prog Tryz.f171 1 [2, 15] g171 := ⟨_, [], rfl, by kernel_rfl, by decide, by kernel_rfl, by kernel_rfl, rfl, rfl⟩
/-- pianola/pianolaref6.Return -/
def g172 : GFunc := ⟨1, (.seq (.reg fun _ fr h k =>
  obind (pNilck (Tr.get .bad q0 fr)) fun v0 =>
  obind (pFa 39 v0) fun v1 =>
  obind (pIdxA 16 1 v1 (.int .i64 (.ofNat 14))) fun v2 =>
  obind (rLd1 v2 h) fun v3 =>
  obind (pNilck (Tr.get .bad q0 fr)) fun v4 =>
  obind (pFa 34 v4) fun v5 =>
  obind (wSt1 v5 v3 h) fun h7 =>
  k fr h7)
 (.seq (.reg fun _ fr h k =>
  obind (pNilck (Tr.get .bad q0 fr)) fun v0 =>
  obind (pFa 34 v0) fun v1 =>
  obind (rLd1 v1 h) fun v2 =>
  obind (pAdd v2 (.int .u32 (.ofNat 4))) fun v3 =>
  obind (pNilck (Tr.get .bad q0 fr)) fun v4 =>
  obind (pFa 35 v4) fun v5 =>
  obind (wSt1 v5 v3 h) fun h7 =>
  obind (pNilck (Tr.get .bad q0 fr)) fun v7 =>
  obind (pFa 36 v7) fun v8 =>
  obind (wSt1 v8 (.bool false) h7) fun h10 =>
  obind (pNilck (Tr.get .bad q0 fr)) fun v10 =>
  obind (pFa 37 v10) fun v11 =>
  obind (wSt1 v11 (.bool false) h10) fun h13 =>
  k fr h13)
 (.reg fun _ fr h k =>
  obind (pNilck (Tr.get .bad q0 fr)) fun v0 =>
  obind (pFa 39 v0) fun v1 =>
  obind (pIdxA 16 1 v1 (.int .i64 (.ofNat 12))) fun v2 =>
  obind (rLd1 v2 h) fun v3 =>
  obind (pAndNot v3 (.int .u32 (.ofNat 2))) fun v4 =>
  obind (pNilck (Tr.get .bad q0 fr)) fun v5 =>
  obind (pFa 39 v5) fun v6 =>
  obind (pIdxA 16 1 v6 (.int .i64 (.ofNat 12))) fun v7 =>
  obind (wSt1 v7 v4 h) fun h9 =>
  k fr h9))), resF []⟩
theorem g172_ok : Comp Tryz.prog Tryz.f172 1 [] g172 := ⟨_, [], rfl, by kernel_rfl, by decide, by kernel_rfl, by kernel_rfl, rfl, rfl⟩
/-- pianola/pianolaref6.Missing -/
def g173 : GFunc := ⟨1, (.seq (.reg fun _ fr h k =>
  forceG (.int .i64 (.ofNat 0)) fun v => Tr.setK .bad v q2 fr fun f2 =>
  k f2 h)
 (.seq (.reg fun _ fr h k =>
  obind (pNilck (Tr.get .bad q0 fr)) fun v0 =>
  obind (pFa 39 v0) fun v1 =>
  obind (pIdxA 16 1 v1 (.int .i64 (.ofNat 11))) fun v2 =>
  obind (rLd1 v2 h) fun v3 =>
  obind (pNilck (Tr.get .bad q0 fr)) fun v4 =>
  obind (pFa 39 v4) fun v5 =>
  obind (pIdxA 16 1 v5 (.int .i64 (.ofNat 9))) fun v6 =>
  obind (rLd1 v6 h) fun v7 =>
  obind (pSub v3 v7) fun v8 =>
  obind (pConv .i64 v8) fun v9 =>
  forceG v9 fun v => Tr.setK .bad v q3 fr fun f3 =>
  k f3 h)
 (.seq (.seq (.reg fun _ fr h k =>
  obind (pEql (Tr.get .bad q3 fr) (.int .i64 (.ofNat 0))) fun v0 =>
  forceG v0 fun v => Tr.setK .bad v q17 fr fun f17 =>
  k f17 h)
 (.cond 17 q17 (.seq (.reg fun _ fr h k =>
  forceG (.int .i64 (.ofNat 4294967296)) fun v => Tr.setK .bad v q2 fr fun f2 =>
  k f2 h)
 .ret)
 .skip))
 (.seq (.reg fun _ fr h k =>
  forceG (Tr.get .bad q3 fr) fun v => Tr.setK .bad v q2 fr fun f2 =>
  k f2 h)
 .ret)))), resF [.t 2]⟩
theorem g173_ok : Comp Tryz.prog Tryz.f173 1 [2, 3, 17] g173 := ⟨_, [.t 2], rfl, by kernel_rfl, by decide, by kernel_rfl, by kernel_rfl, rfl, rfl⟩
/-- pianola/pianolaref4.Do -/
def g174 : GFunc := ⟨3, (.seq (.reg fun _ fr h k =>
  obind2 (nBox (Tr.get .bad q0 fr) h) fun v0 h1 =>
  forceG v0 fun v => Tr.setK .bad v q3 fr fun f3 =>
  forceG (.int .u32 (.ofNat 0)) fun v => Tr.setK .bad v q6 f3 fun f6 =>
  forceG (.bool false) fun v => Tr.setK .bad v q7 f6 fun f7 =>
  k f7 h1)
 (.seq (.reg fun call fr h k =>
  obind (pFa 5 (Tr.get .bad q3 fr)) fun v0 =>
  obind (rLd1 v0 h) fun v1 =>
  call q165 [v1, (.int .i64 (.ofNat 16))] h fun v2 h3 =>
  forceG v2 fun v => Tr.setK .bad v q8 fr fun f8 =>
  k f8 h3)
 (.seq (.reg fun _ fr h k =>
  obind (pFa 5 (Tr.get .bad q3 fr)) fun v0 =>
  obind (rLd1 v0 h) fun v1 =>
  obind (pAnd v1 (.int .u32 (.ofNat 65535))) fun v2 =>
  forceG v2 fun v => Tr.setK .bad v q9 fr fun f9 =>
  k f9 h)
 (.seq (.seq (.reg fun _ fr h k =>
  obind (pFa 0 (Tr.get .bad q3 fr)) fun v0 =>
  obind (rLd1 v0 h) fun v1 =>
  forceG v1 fun v => Tr.setK .bad v q19 fr fun f19 =>
  k f19 h)
 (.block 0 (.seq (.seq (.reg fun _ fr h k =>
  obind (pEql (Tr.get .bad q19 fr) (.int .i64 (.ofNat 1))) fun v0 =>
  forceG v0 fun v => Tr.setK .bad v q20 fr fun f20 =>
  k f20 h)
 (.cond 20 q20 .skip
 (.seq (.reg fun _ fr h k =>
  obind (pEql (Tr.get .bad q19 fr) (.int .i64 (.ofNat 2))) fun v0 =>
  forceG v0 fun v => Tr.setK .bad v q20 fr fun f20 =>
  k f20 h)
 (.cond 20 q20 .skip
 (.reg fun _ fr h k =>
  obind (pEql (Tr.get .bad q19 fr) (.int .i64 (.ofNat 3))) fun v0 =>
  forceG v0 fun v => Tr.setK .bad v q20 fr fun f20 =>
  k f20 h)))))
 (.cond 20 q20 (.seq (.reg fun call fr h k =>
  obind (pFa 0 (Tr.get .bad q3 fr)) fun v0 =>
  obind (rLd1 v0 h) fun v1 =>
  obind (pSub v1 (.int .i64 (.ofNat 1))) fun v2 =>
  obind (pFa 4 (Tr.get .bad q3 fr)) fun v3 =>
  obind (rLd1 v3 h) fun v4 =>
  call q209 [v2, (Tr.get .bad q2 fr), v4] h fun v5 h6 =>
  forceG v5 fun v => Tr.setK .bad v q6 fr fun f6 =>
  forceG (.bool true) fun v => Tr.setK .bad v q7 f6 fun f7 =>
  k f7 h6)
 .ret)
 (.seq (.seq (.reg fun _ fr h k =>
  obind (pEql (Tr.get .bad q19 fr) (.int .i64 (.ofNat 4))) fun v0 =>
  forceG v0 fun v => Tr.setK .bad v q31 fr fun f31 =>
  k f31 h)
 (.cond 31 q31 .skip
 (.seq (.reg fun _ fr h k =>
  obind (pEql (Tr.get .bad q19 fr) (.int .i64 (.ofNat 5))) fun v0 =>
  forceG v0 fun v => Tr.setK .bad v q31 fr fun f31 =>
  k f31 h)
 (.cond 31 q31 .skip
 (.reg fun _ fr h k =>
  obind (pEql (Tr.get .bad q19 fr) (.int .i64 (.ofNat 6))) fun v0 =>
  forceG v0 fun v => Tr.setK .bad v q31 fr fun f31 =>
  k f31 h)))))
 (.cond 31 q31 (.seq (.reg fun call fr h k =>
  obind (pFa 0 (Tr.get .bad q3 fr)) fun v0 =>
  obind (rLd1 v0 h) fun v1 =>
  obind (pSub v1 (.int .i64 (.ofNat 4))) fun v2 =>
  obind (pRem (Tr.get .bad q1 fr) (.int .u32 (.ofNat 32))) fun v3 =>
  obind (pConv .i64 v3) fun v4 =>
  call q209 [v2, (Tr.get .bad q2 fr), v4] h fun v5 h6 =>
  forceG v5 fun v => Tr.setK .bad v q6 fr fun f6 =>
  forceG (.bool true) fun v => Tr.setK .bad v q7 f6 fun f7 =>
  k f7 h6)
 .ret)
 (.seq (.seq (.reg fun _ fr h k =>
  obind (pEql (Tr.get .bad q19 fr) (.int .i64 (.ofNat 22))) fun v0 =>
  forceG v0 fun v => Tr.setK .bad v q43 fr fun f43 =>
  k f43 h)
 (.cond 43 q43 .skip
 (.reg fun _ fr h k =>
  obind (pEql (Tr.get .bad q19 fr) (.int .i64 (.ofNat 23))) fun v0 =>
  forceG v0 fun v => Tr.setK .bad v q43 fr fun f43 =>
  k f43 h)))
 (.cond 43 q43 (.seq (.reg fun _ fr h k =>
  obind (pAdd (Tr.get .bad q1 fr) (Tr.get .bad q2 fr)) fun v0 =>
  forceG v0 fun v => Tr.setK .bad v q6 fr fun f6 =>
  forceG (.bool true) fun v => Tr.setK .bad v q7 f6 fun f7 =>
  k f7 h)
 .ret)
 (.seq (.seq (.reg fun _ fr h k =>
  obind (pEql (Tr.get .bad q19 fr) (.int .i64 (.ofNat 24))) fun v0 =>
  forceG v0 fun v => Tr.setK .bad v q49 fr fun f49 =>
  k f49 h)
 (.cond 49 q49 .skip
 (.reg fun _ fr h k =>
  obind (pEql (Tr.get .bad q19 fr) (.int .i64 (.ofNat 25))) fun v0 =>
  forceG v0 fun v => Tr.setK .bad v q49 fr fun f49 =>
  k f49 h)))
 (.cond 49 q49 (.seq (.reg fun _ fr h k =>
  obind (pSub (Tr.get .bad q1 fr) (Tr.get .bad q2 fr)) fun v0 =>
  forceG v0 fun v => Tr.setK .bad v q6 fr fun f6 =>
  forceG (.bool true) fun v => Tr.setK .bad v q7 f6 fun f7 =>
  k f7 h)
 .ret)
 (.seq (.reg fun _ fr h k =>
  obind (pEql (Tr.get .bad q19 fr) (.int .i64 (.ofNat 26))) fun v0 =>
  forceG v0 fun v => Tr.setK .bad v q55 fr fun f55 =>
  k f55 h)
 (.cond 55 q55 (.seq (.reg fun _ fr h k =>
  obind (pAnd (Tr.get .bad q1 fr) (Tr.get .bad q2 fr)) fun v0 =>
  forceG v0 fun v => Tr.setK .bad v q6 fr fun f6 =>
  forceG (.bool true) fun v => Tr.setK .bad v q7 f6 fun f7 =>
  k f7 h)
 .ret)
 (.seq (.reg fun _ fr h k =>
  obind (pEql (Tr.get .bad q19 fr) (.int .i64 (.ofNat 27))) fun v0 =>
  forceG v0 fun v => Tr.setK .bad v q60 fr fun f60 =>
  k f60 h)
 (.cond 60 q60 (.seq (.reg fun _ fr h k =>
  obind (pOr (Tr.get .bad q1 fr) (Tr.get .bad q2 fr)) fun v0 =>
  forceG v0 fun v => Tr.setK .bad v q6 fr fun f6 =>
  forceG (.bool true) fun v => Tr.setK .bad v q7 f6 fun f7 =>
  k f7 h)
 .ret)
 (.seq (.reg fun _ fr h k =>
  obind (pEql (Tr.get .bad q19 fr) (.int .i64 (.ofNat 28))) fun v0 =>
  forceG v0 fun v => Tr.setK .bad v q65 fr fun f65 =>
  k f65 h)
 (.cond 65 q65 (.seq (.reg fun _ fr h k =>
  obind (pXor (Tr.get .bad q1 fr) (Tr.get .bad q2 fr)) fun v0 =>
  forceG v0 fun v => Tr.setK .bad v q6 fr fun f6 =>
  forceG (.bool true) fun v => Tr.setK .bad v q7 f6 fun f7 =>
  k f7 h)
 .ret)
 (.seq (.reg fun _ fr h k =>
  obind (pEql (Tr.get .bad q19 fr) (.int .i64 (.ofNat 29))) fun v0 =>
  forceG v0 fun v => Tr.setK .bad v q70 fr fun f70 =>
  k f70 h)
 (.cond 70 q70 (.seq (.reg fun _ fr h k =>
  obind (pOr (Tr.get .bad q1 fr) (Tr.get .bad q2 fr)) fun v0 =>
  obind (pCpl v0) fun v1 =>
  forceG v1 fun v => Tr.setK .bad v q6 fr fun f6 =>
  forceG (.bool true) fun v => Tr.setK .bad v q7 f6 fun f7 =>
  k f7 h)
 .ret)
 (.seq (.seq (.reg fun _ fr h k =>
  obind (pEql (Tr.get .bad q19 fr) (.int .i64 (.ofNat 30))) fun v0 =>
  forceG v0 fun v => Tr.setK .bad v q76 fr fun f76 =>
  k f76 h)
 (.cond 76 q76 .skip
 (.reg fun _ fr h k =>
  obind (pEql (Tr.get .bad q19 fr) (.int .i64 (.ofNat 31))) fun v0 =>
  forceG v0 fun v => Tr.setK .bad v q76 fr fun f76 =>
  k f76 h)))
 (.cond 76 q76 (.seq (.reg fun call fr h k =>
  obind (pFa 0 (Tr.get .bad q3 fr)) fun v0 =>
  obind (rLd1 v0 h) fun v1 =>
  obind (pEql v1 (.int .i64 (.ofNat 30))) fun v2 =>
  call q155 [(Tr.get .bad q1 fr), (Tr.get .bad q2 fr), v2] h fun v3 h4 =>
  call q210 [v3] h4 fun v4 h5 =>
  forceG v4 fun v => Tr.setK .bad v q6 fr fun f6 =>
  forceG (.bool true) fun v => Tr.setK .bad v q7 f6 fun f7 =>
  k f7 h5)
 .ret)
 (.seq (.seq (.reg fun _ fr h k =>
  obind (pEql (Tr.get .bad q19 fr) (.int .i64 (.ofNat 46))) fun v0 =>
  forceG v0 fun v => Tr.setK .bad v q86 fr fun f86 =>
  k f86 h)
 (.cond 86 q86 .skip
 (.reg fun _ fr h k =>
  obind (pEql (Tr.get .bad q19 fr) (.int .i64 (.ofNat 47))) fun v0 =>
  forceG v0 fun v => Tr.setK .bad v q86 fr fun f86 =>
  k f86 h)))
 (.cond 86 q86 (.seq (.reg fun _ fr h k =>
  obind (pAdd (Tr.get .bad q1 fr) (Tr.get .bad q8 fr)) fun v0 =>
  forceG v0 fun v => Tr.setK .bad v q6 fr fun f6 =>
  forceG (.bool true) fun v => Tr.setK .bad v q7 f6 fun f7 =>
  k f7 h)
 .ret)
 (.seq (.seq (.reg fun _ fr h k =>
  obind (pEql (Tr.get .bad q19 fr) (.int .i64 (.ofNat 48))) fun v0 =>
  forceG v0 fun v => Tr.setK .bad v q92 fr fun f92 =>
  k f92 h)
 (.cond 92 q92 .skip
 (.reg fun _ fr h k =>
  obind (pEql (Tr.get .bad q19 fr) (.int .i64 (.ofNat 49))) fun v0 =>
  forceG v0 fun v => Tr.setK .bad v q92 fr fun f92 =>
  k f92 h)))
 (.cond 92 q92 (.seq (.reg fun call fr h k =>
  obind (pFa 0 (Tr.get .bad q3 fr)) fun v0 =>
  obind (rLd1 v0 h) fun v1 =>
  obind (pEql v1 (.int .i64 (.ofNat 48))) fun v2 =>
  call q155 [(Tr.get .bad q1 fr), (Tr.get .bad q8 fr), v2] h fun v3 h4 =>
  call q210 [v3] h4 fun v4 h5 =>
  forceG v4 fun v => Tr.setK .bad v q6 fr fun f6 =>
  forceG (.bool true) fun v => Tr.setK .bad v q7 f6 fun f7 =>
  k f7 h5)
 .ret)
 (.seq (.reg fun _ fr h k =>
  obind (pEql (Tr.get .bad q19 fr) (.int .i64 (.ofNat 50))) fun v0 =>
  forceG v0 fun v => Tr.setK .bad v q102 fr fun f102 =>
  k f102 h)
 (.cond 102 q102 (.seq (.reg fun _ fr h k =>
  obind (pAnd (Tr.get .bad q1 fr) (Tr.get .bad q9 fr)) fun v0 =>
  forceG v0 fun v => Tr.setK .bad v q6 fr fun f6 =>
  forceG (.bool true) fun v => Tr.setK .bad v q7 f6 fun f7 =>
  k f7 h)
 .ret)
 (.seq (.reg fun _ fr h k =>
  obind (pEql (Tr.get .bad q19 fr) (.int .i64 (.ofNat 51))) fun v0 =>
  forceG v0 fun v => Tr.setK .bad v q107 fr fun f107 =>
  k f107 h)
 (.cond 107 q107 (.seq (.reg fun _ fr h k =>
  obind (pOr (Tr.get .bad q1 fr) (Tr.get .bad q9 fr)) fun v0 =>
  forceG v0 fun v => Tr.setK .bad v q6 fr fun f6 =>
  forceG (.bool true) fun v => Tr.setK .bad v q7 f6 fun f7 =>
  k f7 h)
 .ret)
 (.seq (.reg fun _ fr h k =>
  obind (pEql (Tr.get .bad q19 fr) (.int .i64 (.ofNat 52))) fun v0 =>
  forceG v0 fun v => Tr.setK .bad v q112 fr fun f112 =>
  k f112 h)
 (.cond 112 q112 (.seq (.reg fun _ fr h k =>
  obind (pXor (Tr.get .bad q1 fr) (Tr.get .bad q9 fr)) fun v0 =>
  forceG v0 fun v => Tr.setK .bad v q6 fr fun f6 =>
  forceG (.bool true) fun v => Tr.setK .bad v q7 f6 fun f7 =>
  k f7 h)
 .ret)
 (.seq (.reg fun _ fr h k =>
  obind (pEql (Tr.get .bad q19 fr) (.int .i64 (.ofNat 53))) fun v0 =>
  forceG v0 fun v => Tr.setK .bad v q117 fr fun f117 =>
  k f117 h)
 (.cond 117 q117 (.seq (.reg fun _ fr h k =>
  obind (pShl (Tr.get .bad q9 fr) (.int .u64 (.ofNat 16))) fun v0 =>
  forceG v0 fun v => Tr.setK .bad v q6 fr fun f6 =>
  forceG (.bool true) fun v => Tr.setK .bad v q7 f6 fun f7 =>
  k f7 h)
 .ret)
 (.seq (.reg fun _ fr h k =>
  obind (pEql (Tr.get .bad q19 fr) (.int .i64 (.ofNat 63))) fun v0 =>
  forceG v0 fun v => Tr.setK .bad v q121 fr fun f121 =>
  k f121 h)
 (.cond 121 q121 (.seq (.reg fun call fr h k =>
  call q156 [(Tr.get .bad q1 fr), (Tr.get .bad q2 fr), (.bool true)] h fun v0 h1 =>
  obind (pExt 0 v0) fun _ =>
  obind (pExt 1 v0) fun v2 =>
  forceG v2 fun v => Tr.setK .bad v q11 fr fun f11 =>
  k f11 h1)
 (.seq (.reg fun _ fr h k =>
  forceG (Tr.get .bad q11 fr) fun v => Tr.setK .bad v q6 fr fun f6 =>
  forceG (.bool true) fun v => Tr.setK .bad v q7 f6 fun f7 =>
  k f7 h)
 .ret))
 (.seq (.reg fun _ fr h k =>
  obind (pEql (Tr.get .bad q19 fr) (.int .i64 (.ofNat 64))) fun v0 =>
  forceG v0 fun v => Tr.setK .bad v q130 fr fun f130 =>
  k f130 h)
 (.cond 130 q130 (.seq (.reg fun call fr h k =>
  call q157 [(Tr.get .bad q1 fr)] h fun v0 h1 =>
  obind (pConv .u32 v0) fun v1 =>
  forceG v1 fun v => Tr.setK .bad v q6 fr fun f6 =>
  forceG (.bool true) fun v => Tr.setK .bad v q7 f6 fun f7 =>
  k f7 h1)
 .ret)
 (.seq (.reg fun _ fr h k =>
  obind (pEql (Tr.get .bad q19 fr) (.int .i64 (.ofNat 65))) fun v0 =>
  forceG v0 fun v => Tr.setK .bad v q135 fr fun f135 =>
  k f135 h)
 (.cond 135 q135 (.seq (.reg fun call fr h k =>
  call q158 [(Tr.get .bad q1 fr)] h fun v0 h1 =>
  obind (pConv .u32 v0) fun v1 =>
  forceG v1 fun v => Tr.setK .bad v q6 fr fun f6 =>
  forceG (.bool true) fun v => Tr.setK .bad v q7 f6 fun f7 =>
  k f7 h1)
 .ret)
 .skip))))))))))))))))))))))))))))))))))))))
 (.seq (.reg fun _ fr h k =>
  forceG (.int .u32 (.ofNat 0)) fun v => Tr.setK .bad v q6 fr fun f6 =>
  forceG (.bool false) fun v => Tr.setK .bad v q7 f6 fun f7 =>
  k f7 h)
 .ret))))), resF [.t 6, .t 7]⟩
theorem g174_ok : Comp Tryz.prog Tryz.f174 3 [3, 6, 7, 8, 9, 11, 19, 20, 31, 43, 49, 55, 60, 65, 70, 76, 86, 92, 102, 107, 112, 117, 121, 130, 135] g174 := ⟨_, [.t 6, .t 7], rfl, by kernel_rfl, by decide, by kernel_rfl, by kernel_rfl, rfl, rfl⟩
/-- pianola/pianolaref4.Into -/
def g175 : GFunc := ⟨1, (.seq (.reg fun _ fr h k =>
  obind2 (nBox (Tr.get .bad q0 fr) h) fun v0 h1 =>
  forceG v0 fun v => Tr.setK .bad v q1 fr fun f1 =>
  forceG (.int .i64 (.ofNat 0)) fun v => Tr.setK .bad v q2 f1 fun f2 =>
  k f2 h1)
 (.seq (.seq (.reg fun call fr h k =>
  obind (pFa 0 (Tr.get .bad q1 fr)) fun v0 =>
  obind (rLd1 v0 h) fun v1 =>
  call q211 [v1] h fun v2 h3 =>
  obind (pNot v2) fun v3 =>
  forceG v3 fun v => Tr.setK .bad v q6 fr fun f6 =>
  k f6 h3)
 (.cond 6 q6 (.seq (.reg fun _ fr h k =>
  forceG (.int .i64 (.ofNat 0)) fun v => Tr.setK .bad v q2 fr fun f2 =>
  k f2 h)
 .ret)
 .skip))
 (.seq (.seq (.reg fun _ fr h k =>
  obind (pFa 0 (Tr.get .bad q1 fr)) fun v0 =>
  obind (rLd1 v0 h) fun v1 =>
  obind (pGeq v1 (.int .i64 (.ofNat 46))) fun v2 =>
  guardC v2 true h (fun k => obind (pFa 0 (Tr.get .bad q1 fr)) fun v => k v h) fun v3 h4 =>
  guardC v2 true h4 (fun k => obind (rLd1 v3 h4) fun v => k v h4) fun v4 h5 =>
  guardC v2 true h5 (fun k => obind (pLeq v4 (.int .i64 (.ofNat 53))) fun v => k v h5) fun v5 h6 =>
  obind (pPick v2 v5 (.bool false)) fun v6 =>
  forceG v6 fun v => Tr.setK .bad v q14 fr fun f14 =>
  k f14 h6)
 (.cond 14 q14 (.seq (.reg fun _ fr h k =>
  obind (pFa 2 (Tr.get .bad q1 fr)) fun v0 =>
  obind (rLd1 v0 h) fun v1 =>
  forceG v1 fun v => Tr.setK .bad v q2 fr fun f2 =>
  k f2 h)
 .ret)
 .skip))
 (.seq (.reg fun _ fr h k =>
  obind (pFa 3 (Tr.get .bad q1 fr)) fun v0 =>
  obind (rLd1 v0 h) fun v1 =>
  forceG v1 fun v => Tr.setK .bad v q2 fr fun f2 =>
  k f2 h)
 .ret)))), resF [.t 2]⟩
theorem g175_ok : Comp Tryz.prog Tryz.f175 1 [1, 2, 6, 14] g175 := ⟨_, [.t 2], rfl, by kernel_rfl, by decide, by kernel_rfl, by kernel_rfl, rfl, rfl⟩
/-- pianola/pianolaref4.Halves -/
def g176 : GFunc := ⟨5, (.seq (.reg fun _ fr h k =>
  obind2 (nBox (Tr.get .bad q0 fr) h) fun v0 h1 =>
  forceG v0 fun v => Tr.setK .bad v q5 fr fun f5 =>
  forceG (.int .u32 (.ofNat 0)) fun v => Tr.setK .bad v q10 f5 fun f10 =>
  forceG (.int .u32 (.ofNat 0)) fun v => Tr.setK .bad v q11 f10 fun f11 =>
  forceG (.bool false) fun v => Tr.setK .bad v q12 f11 fun f12 =>
  k f12 h1)
 (.seq (.seq (.reg fun _ fr h k =>
  obind (pFa 0 (Tr.get .bad q5 fr)) fun v0 =>
  obind (rLd1 v0 h) fun v1 =>
  forceG v1 fun v => Tr.setK .bad v q18 fr fun f18 =>
  k f18 h)
 (.block 0 (.seq (.seq (.reg fun _ fr h k =>
  obind (pEql (Tr.get .bad q18 fr) (.int .i64 (.ofNat 18))) fun v0 =>
  forceG v0 fun v => Tr.setK .bad v q19 fr fun f19 =>
  k f19 h)
 (.cond 19 q19 .skip
 (.reg fun _ fr h k =>
  obind (pEql (Tr.get .bad q18 fr) (.int .i64 (.ofNat 19))) fun v0 =>
  forceG v0 fun v => Tr.setK .bad v q19 fr fun f19 =>
  k f19 h)))
 (.cond 19 q19 (.seq (.reg fun call fr h k =>
  obind (pFa 0 (Tr.get .bad q5 fr)) fun v0 =>
  obind (rLd1 v0 h) fun v1 =>
  obind (pEql v1 (.int .i64 (.ofNat 18))) fun v2 =>
  call q156 [(Tr.get .bad q1 fr), (Tr.get .bad q2 fr), v2] h fun v3 h4 =>
  obind (pExt 0 v3) fun v4 =>
  obind (pExt 1 v3) fun v5 =>
  forceG v4 fun v => Tr.setK .bad v q13 fr fun f13 =>
  forceG v5 fun v => Tr.setK .bad v q14 f13 fun f14 =>
  k f14 h4)
 (.seq (.reg fun _ fr h k =>
  forceG (Tr.get .bad q13 fr) fun v => Tr.setK .bad v q10 fr fun f10 =>
  forceG (Tr.get .bad q14 fr) fun v => Tr.setK .bad v q11 f10 fun f11 =>
  forceG (.bool true) fun v => Tr.setK .bad v q12 f11 fun f12 =>
  k f12 h)
 .ret))
 (.seq (.seq (.reg fun _ fr h k =>
  obind (pEql (Tr.get .bad q18 fr) (.int .i64 (.ofNat 20))) fun v0 =>
  forceG v0 fun v => Tr.setK .bad v q33 fr fun f33 =>
  k f33 h)
 (.cond 33 q33 .skip
 (.reg fun _ fr h k =>
  obind (pEql (Tr.get .bad q18 fr) (.int .i64 (.ofNat 21))) fun v0 =>
  forceG v0 fun v => Tr.setK .bad v q33 fr fun f33 =>
  k f33 h)))
 (.cond 33 q33 (.seq (.reg fun call fr h k =>
  obind (pFa 0 (Tr.get .bad q5 fr)) fun v0 =>
  obind (rLd1 v0 h) fun v1 =>
  obind (pEql v1 (.int .i64 (.ofNat 20))) fun v2 =>
  call q159 [(Tr.get .bad q1 fr), (Tr.get .bad q2 fr), v2] h fun v3 h4 =>
  obind (pExt 0 v3) fun v4 =>
  obind (pExt 1 v3) fun v5 =>
  forceG v4 fun v => Tr.setK .bad v q15 fr fun f15 =>
  forceG v5 fun v => Tr.setK .bad v q16 f15 fun f16 =>
  k f16 h4)
 (.seq (.reg fun _ fr h k =>
  forceG (Tr.get .bad q16 fr) fun v => Tr.setK .bad v q10 fr fun f10 =>
  forceG (Tr.get .bad q15 fr) fun v => Tr.setK .bad v q11 f10 fun f11 =>
  forceG (.bool true) fun v => Tr.setK .bad v q12 f11 fun f12 =>
  k f12 h)
 .ret))
 (.seq (.reg fun _ fr h k =>
  obind (pEql (Tr.get .bad q18 fr) (.int .i64 (.ofNat 15))) fun v0 =>
  forceG v0 fun v => Tr.setK .bad v q47 fr fun f47 =>
  k f47 h)
 (.cond 47 q47 (.seq (.reg fun _ fr h k =>
  forceG (Tr.get .bad q1 fr) fun v => Tr.setK .bad v q10 fr fun f10 =>
  forceG (Tr.get .bad q4 fr) fun v => Tr.setK .bad v q11 f10 fun f11 =>
  forceG (.bool true) fun v => Tr.setK .bad v q12 f11 fun f12 =>
  k f12 h)
 .ret)
 (.seq (.reg fun _ fr h k =>
  obind (pEql (Tr.get .bad q18 fr) (.int .i64 (.ofNat 17))) fun v0 =>
  forceG v0 fun v => Tr.setK .bad v q51 fr fun f51 =>
  k f51 h)
 (.cond 51 q51 (.seq (.reg fun _ fr h k =>
  forceG (Tr.get .bad q3 fr) fun v => Tr.setK .bad v q10 fr fun f10 =>
  forceG (Tr.get .bad q1 fr) fun v => Tr.setK .bad v q11 f10 fun f11 =>
  forceG (.bool true) fun v => Tr.setK .bad v q12 f11 fun f12 =>
  k f12 h)
 .ret)
 .skip))))))))))
 (.seq (.reg fun _ fr h k =>
  forceG (Tr.get .bad q3 fr) fun v => Tr.setK .bad v q10 fr fun f10 =>
  forceG (Tr.get .bad q4 fr) fun v => Tr.setK .bad v q11 f10 fun f11 =>
  forceG (.bool false) fun v => Tr.setK .bad v q12 f11 fun f12 =>
  k f12 h)
 .ret))), resF [.t 10, .t 11, .t 12]⟩
theorem g176_ok : Comp Tryz.prog Tryz.f176 5 [5, 10, 11, 12, 13, 14, 15, 16, 18, 19, 33, 47, 51] g176 := ⟨_, [.t 10, .t 11, .t 12], rfl, by kernel_rfl, by decide, by kernel_rfl, by kernel_rfl, rfl, rfl⟩
/-- pianola/pianolaref4.Taken -/
def g177 : GFunc := ⟨3, (.seq (.reg fun _ fr h k =>
  obind2 (nBox (Tr.get .bad q0 fr) h) fun v0 h1 =>
  forceG v0 fun v => Tr.setK .bad v q3 fr fun f3 =>
  forceG (.bool false) fun v => Tr.setK .bad v q6 f3 fun f6 =>
  k f6 h1)
 (.seq (.reg fun _ fr h k =>
  obind (pGeq (Tr.get .bad q1 fr) (.int .u32 (.ofNat 2147483648))) fun v0 =>
  forceG v0 fun v => Tr.setK .bad v q7 fr fun f7 =>
  k f7 h)
 (.seq (.seq (.reg fun _ fr h k =>
  obind (pFa 0 (Tr.get .bad q3 fr)) fun v0 =>
  obind (rLd1 v0 h) fun v1 =>
  forceG v1 fun v => Tr.setK .bad v q11 fr fun f11 =>
  k f11 h)
 (.block 0 (.seq (.seq (.reg fun _ fr h k =>
  obind (pEql (Tr.get .bad q11 fr) (.int .i64 (.ofNat 40))) fun v0 =>
  forceG v0 fun v => Tr.setK .bad v q12 fr fun f12 =>
  k f12 h)
 (.cond 12 q12 .skip
 (.seq (.reg fun _ fr h k =>
  obind (pEql (Tr.get .bad q11 fr) (.int .i64 (.ofNat 41))) fun v0 =>
  forceG v0 fun v => Tr.setK .bad v q12 fr fun f12 =>
  k f12 h)
 (.cond 12 q12 .skip
 (.seq (.reg fun _ fr h k =>
  obind (pEql (Tr.get .bad q11 fr) (.int .i64 (.ofNat 7))) fun v0 =>
  forceG v0 fun v => Tr.setK .bad v q12 fr fun f12 =>
  k f12 h)
 (.cond 12 q12 .skip
 (.reg fun _ fr h k =>
  obind (pEql (Tr.get .bad q11 fr) (.int .i64 (.ofNat 8))) fun v0 =>
  forceG v0 fun v => Tr.setK .bad v q12 fr fun f12 =>
  k f12 h)))))))
 (.cond 12 q12 (.seq (.reg fun _ fr h k =>
  forceG (.bool true) fun v => Tr.setK .bad v q6 fr fun f6 =>
  k f6 h)
 .ret)
 (.seq (.reg fun _ fr h k =>
  obind (pEql (Tr.get .bad q11 fr) (.int .i64 (.ofNat 42))) fun v0 =>
  forceG v0 fun v => Tr.setK .bad v q17 fr fun f17 =>
  k f17 h)
 (.cond 17 q17 (.seq (.reg fun _ fr h k =>
  obind (pEql (Tr.get .bad q1 fr) (Tr.get .bad q2 fr)) fun v0 =>
  forceG v0 fun v => Tr.setK .bad v q6 fr fun f6 =>
  k f6 h)
 .ret)
 (.seq (.reg fun _ fr h k =>
  obind (pEql (Tr.get .bad q11 fr) (.int .i64 (.ofNat 43))) fun v0 =>
  forceG v0 fun v => Tr.setK .bad v q22 fr fun f22 =>
  k f22 h)
 (.cond 22 q22 (.seq (.reg fun _ fr h k =>
  obind (pNeq (Tr.get .bad q1 fr) (Tr.get .bad q2 fr)) fun v0 =>
  forceG v0 fun v => Tr.setK .bad v q6 fr fun f6 =>
  k f6 h)
 .ret)
 (.seq (.seq (.reg fun _ fr h k =>
  obind (pEql (Tr.get .bad q11 fr) (.int .i64 (.ofNat 36))) fun v0 =>
  forceG v0 fun v => Tr.setK .bad v q27 fr fun f27 =>
  k f27 h)
 (.cond 27 q27 .skip
 (.reg fun _ fr h k =>
  obind (pEql (Tr.get .bad q11 fr) (.int .i64 (.ofNat 38))) fun v0 =>
  forceG v0 fun v => Tr.setK .bad v q27 fr fun f27 =>
  k f27 h)))
 (.cond 27 q27 (.seq (.reg fun _ fr h k =>
  forceG (Tr.get .bad q7 fr) fun v => Tr.setK .bad v q6 fr fun f6 =>
  k f6 h)
 .ret)
 (.seq (.seq (.reg fun _ fr h k =>
  obind (pEql (Tr.get .bad q11 fr) (.int .i64 (.ofNat 37))) fun v0 =>
  forceG v0 fun v => Tr.setK .bad v q31 fr fun f31 =>
  k f31 h)
 (.cond 31 q31 .skip
 (.reg fun _ fr h k =>
  obind (pEql (Tr.get .bad q11 fr) (.int .i64 (.ofNat 39))) fun v0 =>
  forceG v0 fun v => Tr.setK .bad v q31 fr fun f31 =>
  k f31 h)))
 (.cond 31 q31 (.seq (.reg fun _ fr h k =>
  obind (pNot (Tr.get .bad q7 fr)) fun v0 =>
  forceG v0 fun v => Tr.setK .bad v q6 fr fun f6 =>
  k f6 h)
 .ret)
 (.seq (.reg fun _ fr h k =>
  obind (pEql (Tr.get .bad q11 fr) (.int .i64 (.ofNat 44))) fun v0 =>
  forceG v0 fun v => Tr.setK .bad v q36 fr fun f36 =>
  k f36 h)
 (.cond 36 q36 (.seq (.reg fun _ fr h k =>
  guardC (Tr.get .bad q7 fr) false h (fun k => k (Tr.get .bad q1 fr) h) fun v0 h1 =>
  guardC (Tr.get .bad q7 fr) false h1 (fun k => obind (pEql v0 (.int .u32 (.ofNat 0))) fun v => k v h1) fun v1 h2 =>
  obind (pPick (Tr.get .bad q7 fr) (.bool true) v1) fun v2 =>
  forceG v2 fun v => Tr.setK .bad v q6 fr fun f6 =>
  k f6 h2)
 .ret)
 (.seq (.reg fun _ fr h k =>
  obind (pEql (Tr.get .bad q11 fr) (.int .i64 (.ofNat 45))) fun v0 =>
  forceG v0 fun v => Tr.setK .bad v q43 fr fun f43 =>
  k f43 h)
 (.cond 43 q43 (.seq (.reg fun _ fr h k =>
  obind (pNot (Tr.get .bad q7 fr)) fun v0 =>
  guardC v0 true h (fun k => k (Tr.get .bad q1 fr) h) fun v1 h2 =>
  guardC v0 true h2 (fun k => obind (pNeq v1 (.int .u32 (.ofNat 0))) fun v => k v h2) fun v2 h3 =>
  obind (pPick v0 v2 (.bool false)) fun v3 =>
  forceG v3 fun v => Tr.setK .bad v q6 fr fun f6 =>
  k f6 h3)
 .ret)
 .skip))))))))))))))))
 (.seq (.reg fun _ fr h k =>
  forceG (.bool false) fun v => Tr.setK .bad v q6 fr fun f6 =>
  k f6 h)
 .ret)))), resF [.t 6]⟩
theorem g177_ok : Comp Tryz.prog Tryz.f177 3 [3, 6, 7, 11, 12, 17, 22, 27, 31, 36, 43] g177 := ⟨_, [.t 6], rfl, by kernel_rfl, by decide, by kernel_rfl, by kernel_rfl, rfl, rfl⟩
/-- pianola/pianolaref4.Target -/
def g178 : GFunc := ⟨3, (.seq (.reg fun _ fr h k =>
  obind2 (nBox (Tr.get .bad q0 fr) h) fun v0 h1 =>
  forceG v0 fun v => Tr.setK .bad v q3 fr fun f3 =>
  forceG (.int .u32 (.ofNat 0)) fun v => Tr.setK .bad v q6 f3 fun f6 =>
  k f6 h1)
 (.seq (.seq (.reg fun _ fr h k =>
  obind (pFa 0 (Tr.get .bad q3 fr)) fun v0 =>
  obind (rLd1 v0 h) fun v1 =>
  forceG v1 fun v => Tr.setK .bad v q8 fr fun f8 =>
  k f8 h)
 (.block 0 (.seq (.seq (.reg fun _ fr h k =>
  obind (pEql (Tr.get .bad q8 fr) (.int .i64 (.ofNat 40))) fun v0 =>
  forceG v0 fun v => Tr.setK .bad v q9 fr fun f9 =>
  k f9 h)
 (.cond 9 q9 .skip
 (.reg fun _ fr h k =>
  obind (pEql (Tr.get .bad q8 fr) (.int .i64 (.ofNat 41))) fun v0 =>
  forceG v0 fun v => Tr.setK .bad v q9 fr fun f9 =>
  k f9 h)))
 (.cond 9 q9 (.seq (.reg fun _ fr h k =>
  obind (pAdd (Tr.get .bad q1 fr) (.int .u32 (.ofNat 4))) fun v0 =>
  obind (pAnd v0 (.int .u32 (.ofNat 4026531840))) fun v1 =>
  obind (pFa 5 (Tr.get .bad q3 fr)) fun v2 =>
  obind (rLd1 v2 h) fun v3 =>
  obind (pAnd v3 (.int .u32 (.ofNat 67108863))) fun v4 =>
  obind (pShl v4 (.int .u64 (.ofNat 2))) fun v5 =>
  obind (pOr v1 v5) fun v6 =>
  forceG v6 fun v => Tr.setK .bad v q6 fr fun f6 =>
  k f6 h)
 .ret)
 (.seq (.seq (.reg fun _ fr h k =>
  obind (pEql (Tr.get .bad q8 fr) (.int .i64 (.ofNat 7))) fun v0 =>
  forceG v0 fun v => Tr.setK .bad v q20 fr fun f20 =>
  k f20 h)
 (.cond 20 q20 .skip
 (.reg fun _ fr h k =>
  obind (pEql (Tr.get .bad q8 fr) (.int .i64 (.ofNat 8))) fun v0 =>
  forceG v0 fun v => Tr.setK .bad v q20 fr fun f20 =>
  k f20 h)))
 (.cond 20 q20 (.seq (.reg fun _ fr h k =>
  forceG (Tr.get .bad q2 fr) fun v => Tr.setK .bad v q6 fr fun f6 =>
  k f6 h)
 .ret)
 (.seq (.seq (.reg fun _ fr h k =>
  obind (pEql (Tr.get .bad q8 fr) (.int .i64 (.ofNat 42))) fun v0 =>
  forceG v0 fun v => Tr.setK .bad v q24 fr fun f24 =>
  k f24 h)
 (.cond 24 q24 .skip
 (.seq (.reg fun _ fr h k =>
  obind (pEql (Tr.get .bad q8 fr) (.int .i64 (.ofNat 43))) fun v0 =>
  forceG v0 fun v => Tr.setK .bad v q24 fr fun f24 =>
  k f24 h)
 (.cond 24 q24 .skip
 (.seq (.reg fun _ fr h k =>
  obind (pEql (Tr.get .bad q8 fr) (.int .i64 (.ofNat 36))) fun v0 =>
  forceG v0 fun v => Tr.setK .bad v q24 fr fun f24 =>
  k f24 h)
 (.cond 24 q24 .skip
 (.seq (.reg fun _ fr h k =>
  obind (pEql (Tr.get .bad q8 fr) (.int .i64 (.ofNat 37))) fun v0 =>
  forceG v0 fun v => Tr.setK .bad v q24 fr fun f24 =>
  k f24 h)
 (.cond 24 q24 .skip
 (.seq (.reg fun _ fr h k =>
  obind (pEql (Tr.get .bad q8 fr) (.int .i64 (.ofNat 38))) fun v0 =>
  forceG v0 fun v => Tr.setK .bad v q24 fr fun f24 =>
  k f24 h)
 (.cond 24 q24 .skip
 (.seq (.reg fun _ fr h k =>
  obind (pEql (Tr.get .bad q8 fr) (.int .i64 (.ofNat 39))) fun v0 =>
  forceG v0 fun v => Tr.setK .bad v q24 fr fun f24 =>
  k f24 h)
 (.cond 24 q24 .skip
 (.seq (.reg fun _ fr h k =>
  obind (pEql (Tr.get .bad q8 fr) (.int .i64 (.ofNat 44))) fun v0 =>
  forceG v0 fun v => Tr.setK .bad v q24 fr fun f24 =>
  k f24 h)
 (.cond 24 q24 .skip
 (.reg fun _ fr h k =>
  obind (pEql (Tr.get .bad q8 fr) (.int .i64 (.ofNat 45))) fun v0 =>
  forceG v0 fun v => Tr.setK .bad v q24 fr fun f24 =>
  k f24 h)))))))))))))))
 (.cond 24 q24 (.seq (.reg fun call fr h k =>
  obind (pAdd (Tr.get .bad q1 fr) (.int .u32 (.ofNat 4))) fun v0 =>
  obind (pFa 5 (Tr.get .bad q3 fr)) fun v1 =>
  obind (rLd1 v1 h) fun v2 =>
  call q165 [v2, (.int .i64 (.ofNat 16))] h fun v3 h4 =>
  obind (pMul (.int .u32 (.ofNat 4)) v3) fun v4 =>
  obind (pAdd v0 v4) fun v5 =>
  forceG v5 fun v => Tr.setK .bad v q6 fr fun f6 =>
  k f6 h4)
 .ret)
 .skip))))))))
 (.seq (.reg fun _ fr h k =>
  obind (pAdd (Tr.get .bad q1 fr) (.int .u32 (.ofNat 4))) fun v0 =>
  forceG v0 fun v => Tr.setK .bad v q6 fr fun f6 =>
  k f6 h)
 .ret))), resF [.t 6]⟩
theorem g178_ok : Comp Tryz.prog Tryz.f178 3 [3, 6, 8, 9, 20, 24] g178 := ⟨_, [.t 6], rfl, by kernel_rfl, by decide, by kernel_rfl, by kernel_rfl, rfl, rfl⟩
end
end Go.Ev
