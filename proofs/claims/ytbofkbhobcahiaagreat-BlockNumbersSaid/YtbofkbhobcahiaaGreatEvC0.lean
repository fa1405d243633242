/- Ghost code of the Go functions, printed by a program of this session (genfiles.py). -/
import Derived.Test.YtbofkbhobcahiaaGreatEvComp
import Derived.Test.YtbofkbhobcahiaaGreatProg
namespace Go.Ev
open Go.Proofs
set_option maxRecDepth 100000
noncomputable section
/-- pianola/pianolalaw21.BlockNumbers -/
def g4 : GFunc := ⟨0, (.seq (.reg fun _ fr h k =>
  forceG (.bool false) fun v => Tr.setK .bad v q0 fr fun f0 =>
  k f0 h)
 (.seq (.reg fun _ fr h k =>
  obind2 (nMakeS [.int .u8 (.ofNat 0)] 1 1 (some (.u8, 8)) (.int .i64 (.ofNat 2048)) (.int .i64 (.ofNat 2048)) h) fun v0 h1 =>
  forceG v0 fun v => Tr.setK .bad v q1 fr fun f1 =>
  k f1 h1)
 (.seq (.seq (.reg fun _ fr h k =>
  forceG (.int .i64 (.ofNat 0)) fun v => Tr.setK .bad v q2 fr fun f2 =>
  k f2 h)
 (.block 0 (.loop (.seq (.seq (.reg fun _ fr h k =>
  obind (pLss (Tr.get .bad q2 fr) (.int .i64 (.ofNat 512))) fun v0 =>
  forceG v0 fun v => Tr.setK .bad v q14 fr fun f14 =>
  k f14 h)
 (.cond 14 q14 .skip
 (.exit 0)))
 (.seq (.block 1 (.seq (.reg fun _ fr h k =>
  obind2 (nBuildS (rep [.int .u32 (.ofNat 0)] 10) 10 1 (some (.u32, 32)) [(0, 1, (.int .u32 (.ofNat 606142465))), (1, 1, (.int .u32 (.ofNat 0))), (2, 1, (.int .u32 (.ofNat 268435459))), (3, 1, (.int .u32 (.ofNat 2351038464))), (4, 1, (.int .u32 (.ofNat 65011720))), (5, 1, (.int .u32 (.ofNat 268435459))), (6, 1, (.int .u32 (.ofNat 1107296288))), (7, 1, (.int .u32 (.ofNat 608305159))), (8, 1, (.int .u32 (.ofNat 201326608))), (9, 1, (.int .u32 (.ofNat 1073831936)))] h) fun v0 h1 =>
  obind (pMul (Tr.get .bad q2 fr) (.int .i64 (.ofNat 7))) fun v1 =>
  obind (pRem v1 (.int .i64 (.ofNat 10))) fun v2 =>
  obind (pIdxS 1 v0 v2) fun v3 =>
  obind (rLd1 v3 h1) fun v4 =>
  forceG v4 fun v => Tr.setK .bad v q3 fr fun f3 =>
  k f3 h1)
 (.seq (.reg fun _ fr h k =>
  forceG (.int .i64 (.ofNat 0)) fun v => Tr.setK .bad v q4 fr fun f4 =>
  k f4 h)
 (.block 2 (.loop (.seq (.seq (.reg fun _ fr h k =>
  obind (pLss (Tr.get .bad q4 fr) (.int .i64 (.ofNat 4))) fun v0 =>
  forceG v0 fun v => Tr.setK .bad v q24 fr fun f24 =>
  k f24 h)
 (.cond 24 q24 .skip
 (.exit 2)))
 (.seq (.block 3 (.reg fun _ fr h k =>
  obind (pMul (.int .i64 (.ofNat 4)) (Tr.get .bad q2 fr)) fun v0 =>
  obind (pAdd v0 (Tr.get .bad q4 fr)) fun v1 =>
  obind (pMul (.int .i64 (.ofNat 8)) (Tr.get .bad q4 fr)) fun v2 =>
  obind (pSub (.int .i64 (.ofNat 24)) v2) fun v3 =>
  obind (pConv .u64 v3) fun v4 =>
  obind (pShr (Tr.get .bad q3 fr) v4) fun v5 =>
  obind (pConv .u8 v5) fun v6 =>
  obind (pIdxS 1 (Tr.get .bad q1 fr) v1) fun v7 =>
  obind (wSt1 v7 v6 h) fun h9 =>
  k fr h9))
 (.reg fun _ fr h k =>
  obind (pAdd (Tr.get .bad q4 fr) (.int .i64 (.ofNat 1))) fun v0 =>
  forceG v0 fun v => Tr.setK .bad v q4 fr fun f4 =>
  k f4 h))))))))
 (.reg fun _ fr h k =>
  obind (pAdd (Tr.get .bad q2 fr) (.int .i64 (.ofNat 1))) fun v0 =>
  forceG v0 fun v => Tr.setK .bad v q2 fr fun f2 =>
  k f2 h))))))
 (.seq (.reg fun call fr h k =>
  call q18 [(Tr.get .bad q1 fr)] h fun v0 h1 =>
  obind (pExt 0 v0) fun v1 =>
  obind (pExt 1 v0) fun v2 =>
  forceG v1 fun v => Tr.setK .bad v q5 fr fun f5 =>
  forceG v2 fun v => Tr.setK .bad v q6 f5 fun f6 =>
  k f6 h1)
 (.seq (.seq (.reg fun _ fr h k =>
  obind (pEqlN 0 (Tr.get .bad q5 fr) .nilp) fun v0 =>
  forceG v0 fun v => Tr.setK .bad v q46 fr fun f46 =>
  k f46 h)
 (.cond 46 q46 (.seq (.reg fun _ fr h k =>
  forceG (.bool false) fun v => Tr.setK .bad v q0 fr fun f0 =>
  k f0 h)
 .ret)
 .skip))
 (.seq (.seq (.reg fun _ fr h k =>
  forceG (.int .u32 (.ofNat 960)) fun v => Tr.setK .bad v q7 fr fun f7 =>
  k f7 h)
 (.block 4 (.loop (.seq (.seq (.reg fun _ fr h k =>
  obind (pLss (Tr.get .bad q7 fr) (.int .u32 (.ofNat 1100))) fun v0 =>
  forceG v0 fun v => Tr.setK .bad v q48 fr fun f48 =>
  k f48 h)
 (.cond 48 q48 .skip
 (.exit 4)))
 (.seq (.block 5 (.seq (.reg fun _ fr h k =>
  obind2 (nBuildS (rep [.int .i64 (.ofNat 0)] 8) 8 1 (some (.i64, 64)) [(0, 1, (.int .i64 (.negSucc 0))), (1, 1, (.int .i64 (.ofNat 0))), (2, 1, (.int .i64 (.ofNat 1))), (3, 1, (.int .i64 (.ofNat 2))), (4, 1, (.int .i64 (.ofNat 3))), (5, 1, (.int .i64 (.ofNat 8))), (6, 1, (.int .i64 (.ofNat 32))), (7, 1, (.int .i64 (.ofNat 50)))] h) fun v0 h1 =>
  obind (pLenS v0) fun v1 =>
  forceG v0 fun v => Tr.setK .bad v q51 fr fun f51 =>
  forceG v1 fun v => Tr.setK .bad v q52 f51 fun f52 =>
  forceG (.int .i64 (.ofNat 0)) fun v => Tr.setK .bad v q53 f52 fun f53 =>
  k f53 h1)
 (.block 6 (.loop (.seq (.reg fun _ fr h k =>
  obind (pLss (Tr.get .bad q53 fr) (Tr.get .bad q52 fr)) fun v0 =>
  forceG v0 fun v => Tr.setK .bad v q54 fr fun f54 =>
  k f54 h)
 (.seq (.cond 54 q54 .skip
 (.exit 6))
 (.seq (.block 7 (.seq (.reg fun _ fr h k =>
  obind (pIdxS 1 (Tr.get .bad q51 fr) (Tr.get .bad q53 fr)) fun v0 =>
  obind (rLd1 v0 h) fun v1 =>
  forceG v1 fun v => Tr.setK .bad v q9 fr fun f9 =>
  k f9 h)
 (.seq (.reg fun call fr h k =>
  call q19 [(Tr.get .bad q5 fr), (Tr.get .bad q6 fr), (Tr.get .bad q7 fr), (Tr.get .bad q9 fr), .nils] h fun v0 h1 =>
  obind (pNot v0) fun v1 =>
  forceG v1 fun v => Tr.setK .bad v q62 fr fun f62 =>
  k f62 h1)
 (.cond 62 q62 (.seq (.reg fun _ fr h k =>
  forceG (.bool false) fun v => Tr.setK .bad v q0 fr fun f0 =>
  k f0 h)
 .ret)
 .skip))))
 (.reg fun _ fr h k =>
  obind (pAdd (Tr.get .bad q53 fr) (.int .i64 (.ofNat 1))) fun v0 =>
  forceG v0 fun v => Tr.setK .bad v q53 fr fun f53 =>
  k f53 h))))))))
 (.reg fun _ fr h k =>
  obind (pAdd (Tr.get .bad q7 fr) (.int .u32 (.ofNat 4))) fun v0 =>
  forceG v0 fun v => Tr.setK .bad v q7 fr fun f7 =>
  k f7 h))))))
 (.seq (.seq (.reg fun _ fr h k =>
  obind2 (nBuildS (rep [.int .u32 (.ofNat 0)] 5) 5 1 (some (.u32, 32)) [(0, 1, (.int .u32 (.ofNat 2040))), (1, 1, (.int .u32 (.ofNat 2044))), (2, 1, (.int .u32 (.ofNat 2048))), (3, 1, (.int .u32 (.ofNat 1))), (4, 1, (.int .u32 (.ofNat 4294967292)))] h) fun v0 h1 =>
  obind (pLenS v0) fun v1 =>
  forceG v0 fun v => Tr.setK .bad v q64 fr fun f64 =>
  forceG v1 fun v => Tr.setK .bad v q65 f64 fun f65 =>
  forceG (.int .i64 (.ofNat 0)) fun v => Tr.setK .bad v q66 f65 fun f66 =>
  k f66 h1)
 (.block 8 (.loop (.seq (.reg fun _ fr h k =>
  obind (pLss (Tr.get .bad q66 fr) (Tr.get .bad q65 fr)) fun v0 =>
  forceG v0 fun v => Tr.setK .bad v q67 fr fun f67 =>
  k f67 h)
 (.seq (.cond 67 q67 .skip
 (.exit 8))
 (.seq (.block 9 (.seq (.reg fun _ fr h k =>
  obind (pIdxS 1 (Tr.get .bad q64 fr) (Tr.get .bad q66 fr)) fun v0 =>
  obind (rLd1 v0 h) fun v1 =>
  forceG v1 fun v => Tr.setK .bad v q11 fr fun f11 =>
  k f11 h)
 (.seq (.reg fun call fr h k =>
  call q19 [(Tr.get .bad q5 fr), (Tr.get .bad q6 fr), (Tr.get .bad q11 fr), (.int .i64 (.ofNat 9)), .nils] h fun v0 h1 =>
  obind (pNot v0) fun v1 =>
  forceG v1 fun v => Tr.setK .bad v q74 fr fun f74 =>
  k f74 h1)
 (.cond 74 q74 (.seq (.reg fun _ fr h k =>
  forceG (.bool false) fun v => Tr.setK .bad v q0 fr fun f0 =>
  k f0 h)
 .ret)
 .skip))))
 (.reg fun _ fr h k =>
  obind (pAdd (Tr.get .bad q66 fr) (.int .i64 (.ofNat 1))) fun v0 =>
  forceG v0 fun v => Tr.setK .bad v q66 fr fun f66 =>
  k f66 h)))))))
 (.seq (.reg fun call fr h k =>
  call q20 [] h fun v0 h1 =>
  forceG v0 fun v => Tr.setK .bad v q0 fr fun f0 =>
  k f0 h1)
 .ret)))))))), resF [.t 0]⟩
theorem g4_ok : Comp Tryz.prog Tryz.f4 0 [0, 1, 2, 3, 4, 5, 6, 7, 9, 11, 14, 24, 46, 48, 51, 52, 53, 54, 62, 64, 65, 66, 67, 74] g4 := ⟨_, [.t 0], rfl, by kernel_rfl, by decide, by kernel_rfl, by kernel_rfl, rfl, rfl⟩
/-- pianola/pianolaref15.New -/
def g9 : GFunc := ⟨3, (.seq (.reg fun _ fr h k =>
  forceG .nilp fun v => Tr.setK .bad v q6 fr fun f6 =>
  k f6 h)
 (.seq (.reg fun call fr h k =>
  call q36 [(Tr.get .bad q0 fr)] h fun v0 h1 =>
  obind (pBuild [.nilp, .nils, .int .i64 (.ofNat 0), .int .u32 (.ofNat 0), .int .u32 (.ofNat 0), .int .u32 (.ofNat 0), .int .u32 (.ofNat 0), .int .u32 (.ofNat 0), .int .u32 (.ofNat 0), .nils, .nils, .bool false, .int .u32 (.ofNat 0), .nils, .int .u32 (.ofNat 0), .int .u32 (.ofNat 0), .int .u32 (.ofNat 0), .int .u32 (.ofNat 0), .int .u32 (.ofNat 0), .int .u32 (.ofNat 0), .int .u32 (.ofNat 0), .int .u32 (.ofNat 0), .nils, .int .u32 (.ofNat 0), .int .u32 (.ofNat 0)] [(0, 1, v0)]) fun v1 =>
  obind2 (nBox v1 h1) fun v2 h3 =>
  forceG v2 fun v => Tr.setK .bad v q7 fr fun f7 =>
  k f7 h3)
 (.seq (.reg fun _ fr h k =>
  obind (pNilck (Tr.get .bad q7 fr)) fun v0 =>
  obind (pFa 0 v0) fun v1 =>
  obind (rLd1 v1 h) fun v2 =>
  obind (pNilck v2) fun v3 =>
  obind (pFa 0 v3) fun v4 =>
  obind (rLd1 v4 h) fun v5 =>
  obind2 (nCopy 1 v5 (Tr.get .bad q1 fr) h) fun _ h7 =>
  k fr h7)
 (.seq (.reg fun _ fr h k =>
  obind (pLenS (Tr.get .bad q2 fr)) fun v0 =>
  obind (pAdd v0 (.int .i64 (.ofNat 64))) fun v1 =>
  obind (pSub v1 (.int .i64 (.ofNat 1))) fun v2 =>
  obind (pQuo v2 (.int .i64 (.ofNat 64))) fun v3 =>
  obind (pMin v3 (.int .i64 (.ofNat 64))) fun v4 =>
  forceG v4 fun v => Tr.setK .bad v q8 fr fun f8 =>
  k f8 h)
 (.seq (.reg fun _ fr h k =>
  obind (pMul (Tr.get .bad q8 fr) (.int .i64 (.ofNat 64))) fun v0 =>
  obind2 (nMakeS [.int .u8 (.ofNat 0)] 1 1 (some (.u8, 8)) v0 v0 h) fun v1 h2 =>
  obind (pNilck (Tr.get .bad q7 fr)) fun v2 =>
  obind (pFa 18 v2) fun v3 =>
  obind (pFa 4 v3) fun v4 =>
  obind (wSt1 v4 v1 h2) fun h6 =>
  k fr h6)
 (.seq (.reg fun _ fr h k =>
  obind (pNilck (Tr.get .bad q7 fr)) fun v0 =>
  obind (pFa 18 v0) fun v1 =>
  obind (pFa 4 v1) fun v2 =>
  obind (rLd1 v2 h) fun v3 =>
  obind2 (nCopy 1 v3 (Tr.get .bad q2 fr) h) fun _ h5 =>
  k fr h5)
 (.seq (.reg fun _ fr h k =>
  forceG (Tr.get .bad q7 fr) fun v => Tr.setK .bad v q6 fr fun f6 =>
  k f6 h)
 .ret))))))), resF [.t 6]⟩
theorem g9_ok : Comp Tryz.prog Tryz.f9 3 [6, 7, 8] g9 := ⟨_, [.t 6], rfl, by kernel_rfl, by decide, by kernel_rfl, by kernel_rfl, rfl, rfl⟩
/-- (*pianola/pianolaref15.Bus).Load -/
def g11 : GFunc := ⟨4, (.seq (.reg fun _ fr h k =>
  forceG (.int .u32 (.ofNat 0)) fun v => Tr.setK .bad v q8 fr fun f8 =>
  forceG (.bool false) fun v => Tr.setK .bad v q9 f8 fun f9 =>
  k f9 h)
 (.seq (.seq (.reg fun _ fr h k =>
  obind (pNilck (Tr.get .bad q0 fr)) fun v0 =>
  obind (pFa 0 v0) fun v1 =>
  obind (rLd1 v1 h) fun v2 =>
  obind (pNilck v2) fun v3 =>
  obind (pFa 0 v3) fun v4 =>
  obind (rLd1 v4 h) fun v5 =>
  obind (pLenS v5) fun v6 =>
  obind (pConv .u32 v6) fun v7 =>
  obind (pLss (Tr.get .bad q1 fr) v7) fun v8 =>
  forceG v8 fun v => Tr.setK .bad v q25 fr fun f25 =>
  k f25 h)
 (.cond 25 q25 (.seq (.reg fun call fr h k =>
  obind (pNilck (Tr.get .bad q0 fr)) fun v0 =>
  obind (pFa 0 v0) fun v1 =>
  obind (rLd1 v1 h) fun v2 =>
  call q40 [v2, (Tr.get .bad q1 fr), (Tr.get .bad q2 fr)] h fun v3 h4 =>
  obind (pExt 0 v3) fun v4 =>
  obind (pExt 1 v3) fun v5 =>
  forceG v4 fun v => Tr.setK .bad v q8 fr fun f8 =>
  forceG v5 fun v => Tr.setK .bad v q9 f8 fun f9 =>
  k f9 h4)
 .ret)
 .skip))
 (.seq (.reg fun call fr h k =>
  call q41 [(Tr.get .bad q1 fr), (Tr.get .bad q2 fr)] h fun v0 h1 =>
  obind (pExt 0 v0) fun v1 =>
  obind (pExt 1 v0) fun v2 =>
  obind (pExt 2 v0) fun v3 =>
  forceG v1 fun v => Tr.setK .bad v q10 fr fun f10 =>
  forceG v2 fun v => Tr.setK .bad v q11 f10 fun f11 =>
  forceG v3 fun v => Tr.setK .bad v q12 f11 fun f12 =>
  k f12 h1)
 (.seq (.seq (.reg fun _ fr h k =>
  obind (pNot (Tr.get .bad q12 fr)) fun v0 =>
  forceG v0 fun v => Tr.setK .bad v q43 fr fun f43 =>
  k f43 h)
 (.cond 43 q43 (.seq (.reg fun _ fr h k =>
  forceG (.int .u32 (.ofNat 0)) fun v => Tr.setK .bad v q8 fr fun f8 =>
  forceG (.bool false) fun v => Tr.setK .bad v q9 f8 fun f9 =>
  k f9 h)
 .ret)
 .skip))
 (.seq (.reg fun call fr h k =>
  call q42 [(Tr.get .bad q0 fr), (Tr.get .bad q10 fr), (Tr.get .bad q11 fr), (Tr.get .bad q3 fr)] h fun v0 h1 =>
  obind (pExt 0 v0) fun v1 =>
  obind (pExt 1 v0) fun v2 =>
  forceG v1 fun v => Tr.setK .bad v q13 fr fun f13 =>
  forceG v2 fun v => Tr.setK .bad v q14 f13 fun f14 =>
  k f14 h1)
 (.seq (.reg fun call fr h k =>
  call q43 [(Tr.get .bad q0 fr)] h fun _ h1 =>
  k fr h1)
 (.seq (.reg fun _ fr h k =>
  forceG (Tr.get .bad q13 fr) fun v => Tr.setK .bad v q8 fr fun f8 =>
  forceG (Tr.get .bad q14 fr) fun v => Tr.setK .bad v q9 f8 fun f9 =>
  k f9 h)
 .ret))))))), resF [.t 8, .t 9]⟩
theorem g11_ok : Comp Tryz.prog Tryz.f11 4 [8, 9, 10, 11, 12, 13, 14, 25, 43] g11 := ⟨_, [.t 8, .t 9], rfl, by kernel_rfl, by decide, by kernel_rfl, by kernel_rfl, rfl, rfl⟩
/-- (*pianola/pianolaref15.Bus).Store -/
def g13 : GFunc := ⟨5, (.seq (.reg fun _ fr h k =>
  forceG (.bool false) fun v => Tr.setK .bad v q10 fr fun f10 =>
  k f10 h)
 (.seq (.seq (.reg fun _ fr h k =>
  obind (pNilck (Tr.get .bad q0 fr)) fun v0 =>
  obind (pFa 0 v0) fun v1 =>
  obind (rLd1 v1 h) fun v2 =>
  obind (pNilck v2) fun v3 =>
  obind (pFa 0 v3) fun v4 =>
  obind (rLd1 v4 h) fun v5 =>
  obind (pLenS v5) fun v6 =>
  obind (pConv .u32 v6) fun v7 =>
  obind (pLss (Tr.get .bad q1 fr) v7) fun v8 =>
  forceG v8 fun v => Tr.setK .bad v q25 fr fun f25 =>
  k f25 h)
 (.cond 25 q25 (.seq (.reg fun call fr h k =>
  obind (pNilck (Tr.get .bad q0 fr)) fun v0 =>
  obind (pFa 0 v0) fun v1 =>
  obind (rLd1 v1 h) fun v2 =>
  call q45 [v2, (Tr.get .bad q1 fr), (Tr.get .bad q2 fr), (Tr.get .bad q3 fr)] h fun v3 h4 =>
  forceG v3 fun v => Tr.setK .bad v q10 fr fun f10 =>
  k f10 h4)
 .ret)
 .skip))
 (.seq (.reg fun call fr h k =>
  call q41 [(Tr.get .bad q1 fr), (Tr.get .bad q2 fr)] h fun v0 h1 =>
  obind (pExt 0 v0) fun v1 =>
  obind (pExt 1 v0) fun v2 =>
  obind (pExt 2 v0) fun v3 =>
  forceG v1 fun v => Tr.setK .bad v q11 fr fun f11 =>
  forceG v2 fun v => Tr.setK .bad v q12 f11 fun f12 =>
  forceG v3 fun v => Tr.setK .bad v q13 f12 fun f13 =>
  k f13 h1)
 (.seq (.seq (.reg fun _ fr h k =>
  obind (pNot (Tr.get .bad q13 fr)) fun v0 =>
  forceG v0 fun v => Tr.setK .bad v q42 fr fun f42 =>
  k f42 h)
 (.cond 42 q42 (.seq (.reg fun _ fr h k =>
  forceG (.bool false) fun v => Tr.setK .bad v q10 fr fun f10 =>
  k f10 h)
 .ret)
 .skip))
 (.seq (.reg fun call fr h k =>
  call q46 [(Tr.get .bad q0 fr), (Tr.get .bad q11 fr), (Tr.get .bad q12 fr), (Tr.get .bad q3 fr), (Tr.get .bad q4 fr)] h fun v0 h1 =>
  forceG v0 fun v => Tr.setK .bad v q14 fr fun f14 =>
  k f14 h1)
 (.seq (.reg fun call fr h k =>
  call q43 [(Tr.get .bad q0 fr)] h fun _ h1 =>
  k fr h1)
 (.seq (.reg fun _ fr h k =>
  forceG (Tr.get .bad q14 fr) fun v => Tr.setK .bad v q10 fr fun f10 =>
  k f10 h)
 .ret))))))), resF [.t 10]⟩
theorem g13_ok : Comp Tryz.prog Tryz.f13 5 [10, 11, 12, 13, 14, 25, 42] g13 := ⟨_, [.t 10], rfl, by kernel_rfl, by decide, by kernel_rfl, by kernel_rfl, rfl, rfl⟩
/-- pianola/pianolalaw21.memory -/
def g18 : GFunc := ⟨1, (.seq (.reg fun _ fr h k =>
  forceG .nilp fun v => Tr.setK .bad v q2 fr fun f2 =>
  forceG .nilp fun v => Tr.setK .bad v q3 f2 fun f3 =>
  k f3 h)
 (.seq (.reg fun call fr h k =>
  call q27 [(.int .i64 (.ofNat 2))] h fun v0 h1 =>
  call q36 [(.int .i64 (.ofNat 2))] h1 fun v1 h2 =>
  forceG v0 fun v => Tr.setK .bad v q4 fr fun f4 =>
  forceG v1 fun v => Tr.setK .bad v q5 f4 fun f5 =>
  k f5 h2)
 (.seq (.seq (.reg fun _ fr h k =>
  obind (pEqlN 0 (Tr.get .bad q4 fr) .nilp) fun v0 =>
  forceG v0 fun v => Tr.setK .bad v q9 fr fun f9 =>
  k f9 h)
 (.cond 9 q9 (.seq (.reg fun _ fr h k =>
  forceG .nilp fun v => Tr.setK .bad v q2 fr fun f2 =>
  forceG .nilp fun v => Tr.setK .bad v q3 f2 fun f3 =>
  k f3 h)
 .ret)
 .skip))
 (.seq (.seq (.reg fun _ fr h k =>
  obind (pLenS (Tr.get .bad q0 fr)) fun v0 =>
  obind (pGtr v0 (.int .i64 (.ofNat 2048))) fun v1 =>
  forceG v1 fun v => Tr.setK .bad v q12 fr fun f12 =>
  k f12 h)
 (.cond 12 q12 (.reg fun _ fr h k =>
  obind (pSlS 1 none (some (.int .i64 (.ofNat 2048))) none (Tr.get .bad q0 fr)) fun v0 =>
  forceG v0 fun v => Tr.setK .bad v q0 fr fun f0 =>
  k f0 h)
 .skip))
 (.seq (.reg fun call fr h k =>
  call q29 [(Tr.get .bad q4 fr), (.int .u32 (.ofNat 0)), (Tr.get .bad q0 fr)] h fun _ h1 =>
  k fr h1)
 (.seq (.reg fun call fr h k =>
  call q60 [(Tr.get .bad q5 fr), (.int .u32 (.ofNat 0)), (Tr.get .bad q0 fr)] h fun _ h1 =>
  k fr h1)
 (.seq (.reg fun _ fr h k =>
  forceG (Tr.get .bad q4 fr) fun v => Tr.setK .bad v q2 fr fun f2 =>
  forceG (Tr.get .bad q5 fr) fun v => Tr.setK .bad v q3 f2 fun f3 =>
  k f3 h)
 .ret))))))), resF [.t 2, .t 3]⟩
theorem g18_ok : Comp Tryz.prog Tryz.f18 1 [0, 2, 3, 4, 5, 9, 12] g18 := ⟨_, [.t 2, .t 3], rfl, by kernel_rfl, by decide, by kernel_rfl, by kernel_rfl, rfl, rfl⟩
/-- pianola/pianolalaw21.same -/
def g19 : GFunc := ⟨5, (.seq (.reg fun _ fr h k =>
  forceG (.bool false) fun v => Tr.setK .bad v q10 fr fun f10 =>
  k f10 h)
 (.seq (.reg fun call fr h k =>
  call q23 [(Tr.get .bad q0 fr), (Tr.get .bad q2 fr), (Tr.get .bad q3 fr)] h fun v0 h1 =>
  obind (pExt 0 v0) fun v1 =>
  obind (pExt 1 v0) fun v2 =>
  obind2 (nAlloc [.int .u32 (.ofNat 0), .nils, .nils, .nils] h1) fun v3 h4 =>
  obind (wStN 4 v3 v1 h4) fun h5 =>
  forceG v3 fun v => Tr.setK .bad v q11 fr fun f11 =>
  forceG v2 fun v => Tr.setK .bad v q12 f11 fun f12 =>
  k f12 h5)
 (.seq (.reg fun call fr h k =>
  call q61 [(Tr.get .bad q1 fr), (Tr.get .bad q2 fr), (Tr.get .bad q3 fr)] h fun v0 h1 =>
  obind (pExt 0 v0) fun v1 =>
  obind (pExt 1 v0) fun v2 =>
  obind (pExt 2 v0) fun v3 =>
  forceG v1 fun v => Tr.setK .bad v q13 fr fun f13 =>
  forceG v2 fun v => Tr.setK .bad v q14 f13 fun f14 =>
  forceG v3 fun v => Tr.setK .bad v q15 f14 fun f15 =>
  k f15 h1)
 (.seq (.seq (.reg fun call fr h k =>
  obind (pNeqB (Tr.get .bad q12 fr) (Tr.get .bad q15 fr)) fun v0 =>
  guardC v0 false h (fun k => obind (pFa 1 (Tr.get .bad q11 fr)) fun v => k v h) fun v1 h2 =>
  guardC v0 false h2 (fun k => obind (rLd1 v1 h2) fun v => k v h2) fun v2 h3 =>
  guardC v0 false h3 (fun k => k (Tr.get .bad q13 fr) h3) fun v3 h4 =>
  guardC v0 false h4 (fun k => call q62 [v2, v3] h4 k) fun v4 h5 =>
  guardC v0 false h5 (fun k => obind (pNot v4) fun v => k v h5) fun v5 h6 =>
  obind (pPick v0 (.bool true) v5) fun v6 =>
  guardC v6 false h6 (fun k => obind (pFa 2 (Tr.get .bad q11 fr)) fun v => k v h6) fun v7 h8 =>
  guardC v6 false h8 (fun k => obind (rLd1 v7 h8) fun v => k v h8) fun v8 h9 =>
  guardC v6 false h9 (fun k => k (Tr.get .bad q14 fr) h9) fun v9 h10 =>
  guardC v6 false h10 (fun k => call q63 [v8, v9] h10 k) fun v10 h11 =>
  guardC v6 false h11 (fun k => obind (pNot v10) fun v => k v h11) fun v11 h12 =>
  obind (pPick v6 (.bool true) v11) fun v12 =>
  guardC v12 false h12 (fun k => obind (pFa 3 (Tr.get .bad q11 fr)) fun v => k v h12) fun v13 h14 =>
  guardC v12 false h14 (fun k => obind (rLd1 v13 h14) fun v => k v h14) fun v14 h15 =>
  guardC v12 false h15 (fun k => obind (pLenS v14) fun v => k v h15) fun v15 h16 =>
  guardC v12 false h16 (fun k => k (Tr.get .bad q14 fr) h16) fun v16 h17 =>
  guardC v12 false h17 (fun k => obind (pLenS v16) fun v => k v h17) fun v17 h18 =>
  guardC v12 false h18 (fun k => obind (pNeq v15 v17) fun v => k v h18) fun v18 h19 =>
  obind (pPick v12 (.bool true) v18) fun v19 =>
  forceG v19 fun v => Tr.setK .bad v q59 fr fun f59 =>
  k f59 h19)
 (.cond 59 q59 (.seq (.reg fun _ fr h k =>
  forceG (.bool false) fun v => Tr.setK .bad v q10 fr fun f10 =>
  k f10 h)
 .ret)
 .skip))
 (.seq (.seq (.reg fun _ fr h k =>
  obind (pNot (Tr.get .bad q12 fr)) fun v0 =>
  forceG v0 fun v => Tr.setK .bad v q61 fr fun f61 =>
  k f61 h)
 (.cond 61 q61 (.seq (.reg fun _ fr h k =>
  forceG (.bool true) fun v => Tr.setK .bad v q10 fr fun f10 =>
  k f10 h)
 .ret)
 .skip))
 (.seq (.seq (.reg fun call fr h k =>
  obind (pFa 0 (Tr.get .bad q11 fr)) fun v0 =>
  obind (rLd1 v0 h) fun v1 =>
  obind (pNeq v1 (Tr.get .bad q2 fr)) fun v2 =>
  guardC v2 false h (fun k => obind (rLdN 4 (Tr.get .bad q11 fr) h) fun v => k v h) fun v3 h4 =>
  guardC v2 false h4 (fun k => call q64 [v3] h4 k) fun v4 h5 =>
  guardC v2 false h5 (fun k => k (Tr.get .bad q2 fr) h5) fun v5 h6 =>
  guardC v2 false h6 (fun k => obind (pQuo v5 (.int .u32 (.ofNat 1024))) fun v => k v h6) fun v6 h7 =>
  guardC v2 false h7 (fun k => obind (pConv .i64 v6) fun v => k v h7) fun v7 h8 =>
  guardC v2 false h8 (fun k => obind (pNeq v4 v7) fun v => k v h8) fun v8 h9 =>
  obind (pPick v2 (.bool true) v8) fun v9 =>
  guardC v9 false h9 (fun k => obind (rLdN 4 (Tr.get .bad q11 fr) h9) fun v => k v h9) fun v10 h11 =>
  guardC v9 false h11 (fun k => k (Tr.get .bad q0 fr) h11) fun v11 h12 =>
  guardC v9 false h12 (fun k => call q26 [v10, v11] h12 k) fun v12 h13 =>
  guardC v9 false h13 (fun k => obind (pNot v12) fun v => k v h13) fun v13 h14 =>
  obind (pPick v9 (.bool true) v13) fun v14 =>
  forceG v14 fun v => Tr.setK .bad v q79 fr fun f79 =>
  k f79 h14)
 (.cond 79 q79 (.seq (.reg fun _ fr h k =>
  forceG (.bool false) fun v => Tr.setK .bad v q10 fr fun f10 =>
  k f10 h)
 .ret)
 .skip))
 (.seq (.reg fun _ fr h k =>
  obind2 (nMakeS [.int .u32 (.ofNat 0)] 1 4 (some (.u32, 32)) (.int .i64 (.ofNat 40)) (.int .i64 (.ofNat 40)) h) fun v0 h1 =>
  forceG v0 fun v => Tr.setK .bad v q16 fr fun f16 =>
  k f16 h1)
 (.seq (.reg fun call fr h k =>
  call q65 [(.int .i64 (.ofNat 1)), .nils, .nils] h fun v0 h1 =>
  forceG v0 fun v => Tr.setK .bad v q17 fr fun f17 =>
  k f17 h1)
 (.seq (.seq (.reg fun _ fr h k =>
  forceG (.int .i64 (.ofNat 1)) fun v => Tr.setK .bad v q18 fr fun f18 =>
  k f18 h)
 (.block 0 (.loop (.seq (.seq (.reg fun _ fr h k =>
  obind (pLss (Tr.get .bad q18 fr) (.int .i64 (.ofNat 32))) fun v0 =>
  guardC v0 true h (fun k => k (Tr.get .bad q18 fr) h) fun v1 h2 =>
  guardC v0 true h2 (fun k => k (Tr.get .bad q4 fr) h2) fun v2 h3 =>
  guardC v0 true h3 (fun k => obind (pLenS v2) fun v => k v h3) fun v3 h4 =>
  guardC v0 true h4 (fun k => obind (pLss v1 v3) fun v => k v h4) fun v4 h5 =>
  obind (pPick v0 v4 (.bool false)) fun v5 =>
  forceG v5 fun v => Tr.setK .bad v q89 fr fun f89 =>
  k f89 h5)
 (.cond 89 q89 .skip
 (.exit 0)))
 (.seq (.block 1 (.reg fun _ fr h k =>
  obind (pIdxS 1 (Tr.get .bad q4 fr) (Tr.get .bad q18 fr)) fun v0 =>
  obind (rLd1 v0 h) fun v1 =>
  obind (pIdxS 1 (Tr.get .bad q4 fr) (Tr.get .bad q18 fr)) fun v2 =>
  obind (rLd1 v2 h) fun v3 =>
  obind (pIdxS 1 (Tr.get .bad q16 fr) (Tr.get .bad q18 fr)) fun v4 =>
  obind (wSt1 v4 v1 h) fun h6 =>
  obind (pNilck (Tr.get .bad q17 fr)) fun v6 =>
  obind (pFa 0 v6) fun v7 =>
  obind (pFa 0 v7) fun v8 =>
  obind (pIdxA 32 1 v8 (Tr.get .bad q18 fr)) fun v9 =>
  obind (wSt1 v9 v3 h6) fun h11 =>
  k fr h11))
 (.reg fun _ fr h k =>
  obind (pAdd (Tr.get .bad q18 fr) (.int .i64 (.ofNat 1))) fun v0 =>
  forceG v0 fun v => Tr.setK .bad v q18 fr fun f18 =>
  k f18 h))))))
 (.seq (.seq (.reg fun _ fr h k =>
  forceG (.int .i64 (.ofNat 0)) fun v => Tr.setK .bad v q19 fr fun f19 =>
  k f19 h)
 (.block 2 (.loop (.seq (.seq (.reg fun _ fr h k =>
  obind (pLenS (Tr.get .bad q14 fr)) fun v0 =>
  obind (pLss (Tr.get .bad q19 fr) v0) fun v1 =>
  forceG v1 fun v => Tr.setK .bad v q112 fr fun f112 =>
  k f112 h)
 (.cond 112 q112 .skip
 (.exit 2)))
 (.seq (.block 3 (.seq (.seq (.reg fun call fr h k =>
  obind (pIdxS 6 (Tr.get .bad q14 fr) (Tr.get .bad q19 fr)) fun v0 =>
  obind (rLdN 6 v0 h) fun v1 =>
  call q66 [v1] h fun v2 h3 =>
  obind (pNeq v2 (.int .i64 (.ofNat 1))) fun v3 =>
  forceG v3 fun v => Tr.setK .bad v q120 fr fun f120 =>
  k f120 h3)
 (.cond 120 q120 (.seq (.seq (.reg fun _ fr h k =>
  obind (pFa 3 (Tr.get .bad q11 fr)) fun v0 =>
  obind (rLd1 v0 h) fun v1 =>
  obind (pIdxS 1 v1 (Tr.get .bad q19 fr)) fun v2 =>
  obind (rLd1 v2 h) fun v3 =>
  obind (pLenS v3) fun v4 =>
  obind (pNeq v4 (.int .i64 (.ofNat 0))) fun v5 =>
  forceG v5 fun v => Tr.setK .bad v q127 fr fun f127 =>
  k f127 h)
 (.cond 127 q127 (.seq (.reg fun _ fr h k =>
  forceG (.bool false) fun v => Tr.setK .bad v q10 fr fun f10 =>
  k f10 h)
 .ret)
 .skip))
 (.exit 3))
 .skip))
 (.seq (.seq (.reg fun call fr h k =>
  obind (pFa 3 (Tr.get .bad q11 fr)) fun v0 =>
  obind (rLd1 v0 h) fun v1 =>
  obind (pIdxS 1 v1 (Tr.get .bad q19 fr)) fun v2 =>
  obind (rLd1 v2 h) fun v3 =>
  call q67 [(Tr.get .bad q16 fr), v3] h fun v4 h5 =>
  obind (pNot v4) fun v5 =>
  forceG v5 fun v => Tr.setK .bad v q135 fr fun f135 =>
  k f135 h5)
 (.cond 135 q135 (.seq (.reg fun _ fr h k =>
  forceG (.bool false) fun v => Tr.setK .bad v q10 fr fun f10 =>
  k f10 h)
 .ret)
 .skip))
 (.reg fun call fr h k =>
  obind (pIdxS 6 (Tr.get .bad q14 fr) (Tr.get .bad q19 fr)) fun v0 =>
  obind (rLdN 6 v0 h) fun v1 =>
  call q68 [(Tr.get .bad q17 fr), v1] h fun _ h3 =>
  k fr h3))))
 (.reg fun _ fr h k =>
  obind (pAdd (Tr.get .bad q19 fr) (.int .i64 (.ofNat 1))) fun v0 =>
  forceG v0 fun v => Tr.setK .bad v q19 fr fun f19 =>
  k f19 h))))))
 (.seq (.reg fun call fr h k =>
  obind (pSlS 1 none (some (.int .i64 (.ofNat 32))) none (Tr.get .bad q16 fr)) fun v0 =>
  obind (pNilck (Tr.get .bad q17 fr)) fun v1 =>
  obind (pFa 0 v1) fun v2 =>
  obind (pFa 0 v2) fun v3 =>
  obind (pSlA 32 1 none none none v3) fun v4 =>
  call q62 [v0, v4] h fun v5 h6 =>
  guardC v5 true h6 (fun k => k (Tr.get .bad q16 fr) h6) fun v6 h7 =>
  guardC v5 true h7 (fun k => obind (pIdxS 1 v6 (.int .i64 (.ofNat 32))) fun v => k v h7) fun v7 h8 =>
  guardC v5 true h8 (fun k => obind (rLd1 v7 h8) fun v => k v h8) fun v8 h9 =>
  guardC v5 true h9 (fun k => k (Tr.get .bad q17 fr) h9) fun v9 h10 =>
  guardC v5 true h10 (fun k => obind (pNilck v9) fun v => k v h10) fun v10 h11 =>
  guardC v5 true h11 (fun k => obind (pFa 0 v10) fun v => k v h11) fun v11 h12 =>
  guardC v5 true h12 (fun k => obind (pFa 32 v11) fun v => k v h12) fun v12 h13 =>
  guardC v5 true h13 (fun k => obind (rLd1 v12 h13) fun v => k v h13) fun v13 h14 =>
  guardC v5 true h14 (fun k => obind (pEql v8 v13) fun v => k v h14) fun v14 h15 =>
  obind (pPick v5 v14 (.bool false)) fun v15 =>
  guardC v15 true h15 (fun k => k (Tr.get .bad q16 fr) h15) fun v16 h17 =>
  guardC v15 true h17 (fun k => obind (pIdxS 1 v16 (.int .i64 (.ofNat 33))) fun v => k v h17) fun v17 h18 =>
  guardC v15 true h18 (fun k => obind (rLd1 v17 h18) fun v => k v h18) fun v18 h19 =>
  guardC v15 true h19 (fun k => k (Tr.get .bad q17 fr) h19) fun v19 h20 =>
  guardC v15 true h20 (fun k => obind (pNilck v19) fun v => k v h20) fun v20 h21 =>
  guardC v15 true h21 (fun k => obind (pFa 0 v20) fun v => k v h21) fun v21 h22 =>
  guardC v15 true h22 (fun k => obind (pFa 33 v21) fun v => k v h22) fun v22 h23 =>
  guardC v15 true h23 (fun k => obind (rLd1 v22 h23) fun v => k v h23) fun v23 h24 =>
  guardC v15 true h24 (fun k => obind (pEql v18 v23) fun v => k v h24) fun v24 h25 =>
  obind (pPick v15 v24 (.bool false)) fun v25 =>
  forceG v25 fun v => Tr.setK .bad v q10 fr fun f10 =>
  k f10 h25)
 .ret))))))))))), resF [.t 10]⟩
theorem g19_ok : Comp Tryz.prog Tryz.f19 5 [10, 11, 12, 13, 14, 15, 16, 17, 18, 19, 59, 61, 79, 89, 112, 120, 127, 135] g19 := ⟨_, [.t 10], rfl, by kernel_rfl, by decide, by kernel_rfl, by kernel_rfl, rfl, rfl⟩
/-- pianola/pianolalaw21.known -/
def g20 : GFunc := ⟨0, (.seq (.reg fun _ fr h k =>
  forceG (.bool false) fun v => Tr.setK .bad v q0 fr fun f0 =>
  k f0 h)
 (.seq (.reg fun call fr h k =>
  call q27 [(.int .i64 (.ofNat 1))] h fun v0 h1 =>
  forceG v0 fun v => Tr.setK .bad v q1 fr fun f1 =>
  k f1 h1)
 (.seq (.seq (.reg fun _ fr h k =>
  obind (pEqlN 0 (Tr.get .bad q1 fr) .nilp) fun v0 =>
  forceG v0 fun v => Tr.setK .bad v q10 fr fun f10 =>
  k f10 h)
 (.cond 10 q10 (.seq (.reg fun _ fr h k =>
  forceG (.bool false) fun v => Tr.setK .bad v q0 fr fun f0 =>
  k f0 h)
 .ret)
 .skip))
 (.seq (.reg fun call fr h k =>
  call q23 [(Tr.get .bad q1 fr), (.int .u32 (.ofNat 0)), (.int .i64 (.ofNat 5))] h fun v0 h1 =>
  obind (pExt 0 v0) fun v1 =>
  obind (pExt 1 v0) fun v2 =>
  obind2 (nAlloc [.int .u32 (.ofNat 0), .nils, .nils, .nils] h1) fun v3 h4 =>
  obind (wStN 4 v3 v1 h4) fun h5 =>
  forceG v3 fun v => Tr.setK .bad v q2 fr fun f2 =>
  forceG v2 fun v => Tr.setK .bad v q3 f2 fun f3 =>
  k f3 h5)
 (.seq (.reg fun call fr h k =>
  call q23 [(Tr.get .bad q1 fr), (.int .u32 (.ofNat 2)), (.int .i64 (.ofNat 5))] h fun v0 h1 =>
  obind (pExt 0 v0) fun v1 =>
  obind (pExt 1 v0) fun v2 =>
  obind2 (nAlloc [.int .u32 (.ofNat 0), .nils, .nils, .nils] h1) fun v3 h4 =>
  obind (wStN 4 v3 v1 h4) fun h5 =>
  forceG v2 fun v => Tr.setK .bad v q5 fr fun f5 =>
  k f5 h5)
 (.seq (.reg fun call fr h k =>
  call q23 [.nilp, (.int .u32 (.ofNat 0)), (.int .i64 (.ofNat 5))] h fun v0 h1 =>
  obind (pExt 0 v0) fun v1 =>
  obind (pExt 1 v0) fun v2 =>
  obind2 (nAlloc [.int .u32 (.ofNat 0), .nils, .nils, .nils] h1) fun v3 h4 =>
  obind (wStN 4 v3 v1 h4) fun h5 =>
  forceG v2 fun v => Tr.setK .bad v q7 fr fun f7 =>
  k f7 h5)
 (.seq (.reg fun call fr h k =>
  guardC (Tr.get .bad q3 fr) true h (fun k => obind (pFa 2 (Tr.get .bad q2 fr)) fun v => k v h) fun v0 h1 =>
  guardC (Tr.get .bad q3 fr) true h1 (fun k => obind (rLd1 v0 h1) fun v => k v h1) fun v1 h2 =>
  guardC (Tr.get .bad q3 fr) true h2 (fun k => obind (pLenS v1) fun v => k v h2) fun v2 h3 =>
  guardC (Tr.get .bad q3 fr) true h3 (fun k => obind (pEql v2 (.int .i64 (.ofNat 5))) fun v => k v h3) fun v3 h4 =>
  obind (pPick (Tr.get .bad q3 fr) v3 (.bool false)) fun v4 =>
  guardC v4 true h4 (fun k => obind (pFa 1 (Tr.get .bad q2 fr)) fun v => k v h4) fun v5 h6 =>
  guardC v4 true h6 (fun k => obind (rLd1 v5 h6) fun v => k v h6) fun v6 h7 =>
  guardC v4 true h7 (fun k => obind (pLenS v6) fun v => k v h7) fun v7 h8 =>
  guardC v4 true h8 (fun k => obind (pEql v7 (.int .i64 (.ofNat 5))) fun v => k v h8) fun v8 h9 =>
  obind (pPick v4 v8 (.bool false)) fun v9 =>
  guardC v9 true h9 (fun k => obind (pFa 3 (Tr.get .bad q2 fr)) fun v => k v h9) fun v10 h11 =>
  guardC v9 true h11 (fun k => obind (rLd1 v10 h11) fun v => k v h11) fun v11 h12 =>
  guardC v9 true h12 (fun k => obind (pLenS v11) fun v => k v h12) fun v12 h13 =>
  guardC v9 true h13 (fun k => obind (pEql v12 (.int .i64 (.ofNat 5))) fun v => k v h13) fun v13 h14 =>
  obind (pPick v9 v13 (.bool false)) fun v14 =>
  guardC v14 true h14 (fun k => obind (rLdN 4 (Tr.get .bad q2 fr) h14) fun v => k v h14) fun v15 h16 =>
  guardC v14 true h16 (fun k => call q64 [v15] h16 k) fun v16 h17 =>
  guardC v14 true h17 (fun k => obind (pEql v16 (.int .i64 (.ofNat 0))) fun v => k v h17) fun v17 h18 =>
  obind (pPick v14 v17 (.bool false)) fun v18 =>
  guardC v18 true h18 (fun k => obind (rLdN 4 (Tr.get .bad q2 fr) h18) fun v => k v h18) fun v19 h20 =>
  guardC v18 true h20 (fun k => k (Tr.get .bad q1 fr) h20) fun v20 h21 =>
  guardC v18 true h21 (fun k => call q26 [v19, v20] h21 k) fun v21 h22 =>
  obind (pPick v18 v21 (.bool false)) fun v22 =>
  guardC v22 true h22 (fun k => k (Tr.get .bad q5 fr) h22) fun v23 h24 =>
  guardC v22 true h24 (fun k => obind (pNot v23) fun v => k v h24) fun v24 h25 =>
  obind (pPick v22 v24 (.bool false)) fun v25 =>
  guardC v25 true h25 (fun k => k (Tr.get .bad q7 fr) h25) fun v26 h27 =>
  guardC v25 true h27 (fun k => obind (pNot v26) fun v => k v h27) fun v27 h28 =>
  obind (pPick v25 v27 (.bool false)) fun v28 =>
  forceG v28 fun v => Tr.setK .bad v q0 fr fun f0 =>
  k f0 h28)
 .ret))))))), resF [.t 0]⟩
theorem g20_ok : Comp Tryz.prog Tryz.f20 0 [0, 1, 2, 3, 5, 7, 10] g20 := ⟨_, [.t 0], rfl, by kernel_rfl, by decide, by kernel_rfl, by kernel_rfl, rfl, rfl⟩
/-- pianola/block.Find -/
def g23 : GFunc := ⟨3, (.seq (.reg fun _ fr h k =>
  obind2 (nAlloc [.int .u32 (.ofNat 0), .nils, .nils, .nils] h) fun v0 h1 =>
  forceG v0 fun v => Tr.setK .bad v q6 fr fun f6 =>
  forceG (.bool false) fun v => Tr.setK .bad v q7 f6 fun f7 =>
  k f7 h1)
 (.seq (.seq (.reg fun call fr h k =>
  obind (pEqlN 0 (Tr.get .bad q0 fr) .nilp) fun v0 =>
  guardC v0 false h (fun k => k (Tr.get .bad q1 fr) h) fun v1 h2 =>
  guardC v0 false h2 (fun k => obind (pRem v1 (.int .u32 (.ofNat 4))) fun v => k v h2) fun v2 h3 =>
  guardC v0 false h3 (fun k => obind (pNeq v2 (.int .u32 (.ofNat 0))) fun v => k v h3) fun v3 h4 =>
  obind (pPick v0 (.bool true) v3) fun v4 =>
  guardC v4 false h4 (fun k => k (Tr.get .bad q1 fr) h4) fun v5 h6 =>
  guardC v4 false h6 (fun k => k (Tr.get .bad q0 fr) h6) fun v6 h7 =>
  guardC v4 false h7 (fun k => call q30 [v6] h7 k) fun v7 h8 =>
  guardC v4 false h8 (fun k => obind (pGeq v5 v7) fun v => k v h8) fun v8 h9 =>
  obind (pPick v4 (.bool true) v8) fun v9 =>
  forceG v9 fun v => Tr.setK .bad v q28 fr fun f28 =>
  k f28 h9)
 (.cond 28 q28 (.seq (.reg fun _ fr h k =>
  obind (pBuild [.int .u32 (.ofNat 0), .nils, .nils, .nils] []) fun v0 =>
  obind (wStN 4 (Tr.get .bad q6 fr) v0 h) fun h2 =>
  forceG (.bool false) fun v => Tr.setK .bad v q7 fr fun f7 =>
  k f7 h2)
 .ret)
 .skip))
 (.seq (.reg fun _ fr h k =>
  obind (pBuild [.int .u32 (.ofNat 0), .nils, .nils, .nils] [(0, 1, (Tr.get .bad q1 fr))]) fun v0 =>
  obind2 (nAlloc [.int .u32 (.ofNat 0), .nils, .nils, .nils] h) fun v1 h2 =>
  obind (wStN 4 v1 v0 h2) fun h3 =>
  forceG v1 fun v => Tr.setK .bad v q8 fr fun f8 =>
  k f8 h3)
 (.seq (.reg fun _ fr h k =>
  obind (pMin (Tr.get .bad q2 fr) (.int .i64 (.ofNat 32))) fun v0 =>
  obind (pMax (.int .i64 (.ofNat 1)) v0) fun v1 =>
  forceG v1 fun v => Tr.setK .bad v q2 fr fun f2 =>
  k f2 h)
 (.seq (.reg fun _ fr h k =>
  forceG (.bool false) fun v => Tr.setK .bad v q9 fr fun f9 =>
  k f9 h)
 (.seq .skip
 (.seq (.seq (.reg fun _ fr h k =>
  forceG (Tr.get .bad q2 fr) fun v => Tr.setK .bad v q35 fr fun f35 =>
  forceG (.int .i64 (.ofNat 0)) fun v => Tr.setK .bad v q36 f35 fun f36 =>
  k f36 h)
 (.block 0 (.loop (.seq (.reg fun _ fr h k =>
  obind (pLss (Tr.get .bad q36 fr) (Tr.get .bad q35 fr)) fun v0 =>
  forceG v0 fun v => Tr.setK .bad v q37 fr fun f37 =>
  k f37 h)
 (.seq (.cond 37 q37 .skip
 (.exit 0))
 (.seq (.block 1 (.seq (.reg fun _ fr h k =>
  forceG (Tr.get .bad q36 fr) fun v => Tr.setK .bad v q10 fr fun f10 =>
  k f10 h)
 (.seq (.reg fun _ fr h k =>
  obind (pMul (.int .i64 (.ofNat 4)) (Tr.get .bad q10 fr)) fun v0 =>
  obind (pConv .u32 v0) fun v1 =>
  obind (pAdd (Tr.get .bad q1 fr) v1) fun v2 =>
  forceG v2 fun v => Tr.setK .bad v q11 fr fun f11 =>
  k f11 h)
 (.seq (.seq (.reg fun _ fr h k =>
  obind (pGtr (Tr.get .bad q10 fr) (.int .i64 (.ofNat 0))) fun v0 =>
  guardC v0 true h (fun k => k (Tr.get .bad q11 fr) h) fun v1 h2 =>
  guardC v0 true h2 (fun k => obind (pRem v1 (.int .u32 (.ofNat 1024))) fun v => k v h2) fun v2 h3 =>
  guardC v0 true h3 (fun k => obind (pEql v2 (.int .u32 (.ofNat 0))) fun v => k v h3) fun v3 h4 =>
  obind (pPick v0 v3 (.bool false)) fun v4 =>
  forceG v4 fun v => Tr.setK .bad v q50 fr fun f50 =>
  k f50 h4)
 (.cond 50 q50 (.exit 0)
 .skip))
 (.seq (.reg fun call fr h k =>
  call q24 [(Tr.get .bad q0 fr), (Tr.get .bad q11 fr), (.int .i64 (.ofNat 4))] h fun v0 h1 =>
  obind (pExt 0 v0) fun v1 =>
  obind (pExt 1 v0) fun _ =>
  forceG v1 fun v => Tr.setK .bad v q12 fr fun f12 =>
  k f12 h1)
 (.seq (.reg fun call fr h k =>
  call q72 [(Tr.get .bad q12 fr)] h fun v0 h1 =>
  obind2 (nAlloc [.int .i64 (.ofNat 0), .int .i64 (.ofNat 0), .int .i64 (.ofNat 0), .int .i64 (.ofNat 0), .int .i64 (.ofNat 0), .int .u32 (.ofNat 0)] h1) fun v1 h2 =>
  obind (wStN 6 v1 v0 h2) fun h3 =>
  forceG v1 fun v => Tr.setK .bad v q14 fr fun f14 =>
  k f14 h3)
 (.seq (.reg fun call fr h k =>
  obind (rLdN 6 (Tr.get .bad q14 fr) h) fun v0 =>
  call q73 [v0] h fun v1 h2 =>
  forceG v1 fun v => Tr.setK .bad v q15 fr fun f15 =>
  k f15 h2)
 (.seq (.seq (.reg fun _ fr h k =>
  guardC (Tr.get .bad q9 fr) true h (fun k => k (Tr.get .bad q15 fr) h) fun v0 h1 =>
  guardC (Tr.get .bad q9 fr) true h1 (fun k => obind (pEql v0 (.int .i64 (.ofNat 3))) fun v => k v h1) fun v1 h2 =>
  guardC (Tr.get .bad q9 fr) true h2 (fun k => k v1 h2) fun v2 h3 =>
  guardC v2 false h3 (fun k => k (Tr.get .bad q15 fr) h3) fun v3 h4 =>
  guardC v2 false h4 (fun k => obind (pEql v3 (.int .i64 (.ofNat 6))) fun v => k v h4) fun v4 h5 =>
  guardC (Tr.get .bad q9 fr) true h5 (fun k => obind (pPick v2 (.bool true) v4) fun v => k v h5) fun v5 h6 =>
  obind (pPick (Tr.get .bad q9 fr) v5 (.bool false)) fun v6 =>
  forceG v6 fun v => Tr.setK .bad v q69 fr fun f69 =>
  k f69 h6)
 (.cond 69 q69 (.exit 0)
 .skip))
 (.seq (.reg fun call fr h k =>
  obind (rLdN 6 (Tr.get .bad q14 fr) h) fun v0 =>
  call q74 [(Tr.get .bad q8 fr), (Tr.get .bad q12 fr), v0] h fun _ h2 =>
  k fr h2)
 (.seq (.seq (.reg fun _ fr h k =>
  guardC (Tr.get .bad q9 fr) false h (fun k => k (Tr.get .bad q15 fr) h) fun v0 h1 =>
  guardC (Tr.get .bad q9 fr) false h1 (fun k => obind (pEql v0 (.int .i64 (.ofNat 6))) fun v => k v h1) fun v1 h2 =>
  obind (pPick (Tr.get .bad q9 fr) (.bool true) v1) fun v2 =>
  forceG v2 fun v => Tr.setK .bad v q77 fr fun f77 =>
  k f77 h2)
 (.cond 77 q77 (.exit 0)
 .skip))
 (.reg fun _ fr h k =>
  obind (pEql (Tr.get .bad q15 fr) (.int .i64 (.ofNat 3))) fun v0 =>
  forceG v0 fun v => Tr.setK .bad v q9 fr fun f9 =>
  k f9 h)))))))))))
 (.reg fun _ fr h k =>
  obind (pAdd (Tr.get .bad q36 fr) (.int .i64 (.ofNat 1))) fun v0 =>
  forceG v0 fun v => Tr.setK .bad v q36 fr fun f36 =>
  k f36 h)))))))
 (.seq (.reg fun _ fr h k =>
  obind (rLdN 4 (Tr.get .bad q8 fr) h) fun v0 =>
  obind (wStN 4 (Tr.get .bad q6 fr) v0 h) fun h2 =>
  forceG (.bool true) fun v => Tr.setK .bad v q7 fr fun f7 =>
  k f7 h2)
 .ret)))))))), resF [.cN 6 4, .t 7]⟩
theorem g23_ok : Comp Tryz.prog Tryz.f23 3 [2, 6, 7, 8, 9, 10, 11, 12, 14, 15, 28, 35, 36, 37, 50, 69, 77] g23 := ⟨_, [.cN 6 4, .t 7], rfl, by kernel_rfl, by decide, by kernel_rfl, by kernel_rfl, rfl, rfl⟩
/-- (*pianola/ram.Ram).Load -/
def g24 : GFunc := ⟨3, (.seq (.reg fun _ fr h k =>
  forceG (.int .u32 (.ofNat 0)) fun v => Tr.setK .bad v q6 fr fun f6 =>
  forceG (.bool false) fun v => Tr.setK .bad v q7 f6 fun f7 =>
  k f7 h)
 (.seq (.seq (.reg fun call fr h k =>
  call q75 [(Tr.get .bad q0 fr), (Tr.get .bad q1 fr), (Tr.get .bad q2 fr)] h fun v0 h1 =>
  obind (pNot v0) fun v1 =>
  forceG v1 fun v => Tr.setK .bad v q15 fr fun f15 =>
  k f15 h1)
 (.cond 15 q15 (.seq (.reg fun _ fr h k =>
  forceG (.int .u32 (.ofNat 0)) fun v => Tr.setK .bad v q6 fr fun f6 =>
  forceG (.bool false) fun v => Tr.setK .bad v q7 f6 fun f7 =>
  k f7 h)
 .ret)
 .skip))
 (.seq (.reg fun _ fr h k =>
  forceG (.int .u32 (.ofNat 0)) fun v => Tr.setK .bad v q8 fr fun f8 =>
  k f8 h)
 (.seq (.seq (.reg fun _ fr h k =>
  obind (pNilck (Tr.get .bad q0 fr)) fun v0 =>
  obind (pFa 0 v0) fun v1 =>
  obind (rLd1 v1 h) fun v2 =>
  obind (pConv .i64 (Tr.get .bad q1 fr)) fun v3 =>
  obind (pAdd v3 (Tr.get .bad q2 fr)) fun v4 =>
  obind (pSlS 1 (some (Tr.get .bad q1 fr)) (some v4) none v2) fun v5 =>
  obind (pLenS v5) fun v6 =>
  forceG v5 fun v => Tr.setK .bad v q25 fr fun f25 =>
  forceG v6 fun v => Tr.setK .bad v q26 f25 fun f26 =>
  forceG (.int .i64 (.ofNat 0)) fun v => Tr.setK .bad v q27 f26 fun f27 =>
  k f27 h)
 (.block 0 (.loop (.seq (.reg fun _ fr h k =>
  obind (pLss (Tr.get .bad q27 fr) (Tr.get .bad q26 fr)) fun v0 =>
  forceG v0 fun v => Tr.setK .bad v q28 fr fun f28 =>
  k f28 h)
 (.seq (.cond 28 q28 .skip
 (.exit 0))
 (.seq (.block 1 (.seq (.reg fun _ fr h k =>
  obind (pIdxS 1 (Tr.get .bad q25 fr) (Tr.get .bad q27 fr)) fun v0 =>
  obind (rLd1 v0 h) fun v1 =>
  forceG v1 fun v => Tr.setK .bad v q10 fr fun f10 =>
  k f10 h)
 (.reg fun _ fr h k =>
  obind (pShl (Tr.get .bad q8 fr) (.int .u64 (.ofNat 8))) fun v0 =>
  obind (pConv .u32 (Tr.get .bad q10 fr)) fun v1 =>
  obind (pOr v0 v1) fun v2 =>
  forceG v2 fun v => Tr.setK .bad v q8 fr fun f8 =>
  k f8 h)))
 (.reg fun _ fr h k =>
  obind (pAdd (Tr.get .bad q27 fr) (.int .i64 (.ofNat 1))) fun v0 =>
  forceG v0 fun v => Tr.setK .bad v q27 fr fun f27 =>
  k f27 h)))))))
 (.seq (.reg fun _ fr h k =>
  forceG (Tr.get .bad q8 fr) fun v => Tr.setK .bad v q6 fr fun f6 =>
  forceG (.bool true) fun v => Tr.setK .bad v q7 f6 fun f7 =>
  k f7 h)
 .ret))))), resF [.t 6, .t 7]⟩
theorem g24_ok : Comp Tryz.prog Tryz.f24 3 [6, 7, 8, 10, 15, 25, 26, 27, 28] g24 := ⟨_, [.t 6, .t 7], rfl, by kernel_rfl, by decide, by kernel_rfl, by kernel_rfl, rfl, rfl⟩
/-- pianola/block.Same -/
def g26 : GFunc := ⟨2, (.seq (.reg fun _ fr h k =>
  obind2 (nBox (Tr.get .bad q0 fr) h) fun v0 h1 =>
  forceG v0 fun v => Tr.setK .bad v q2 fr fun f2 =>
  forceG (.bool false) fun v => Tr.setK .bad v q4 f2 fun f4 =>
  k f4 h1)
 (.seq (.seq (.reg fun _ fr h k =>
  obind (pEqlN 0 (Tr.get .bad q1 fr) .nilp) fun v0 =>
  forceG v0 fun v => Tr.setK .bad v q10 fr fun f10 =>
  k f10 h)
 (.cond 10 q10 (.seq (.reg fun _ fr h k =>
  forceG (.bool false) fun v => Tr.setK .bad v q4 fr fun f4 =>
  k f4 h)
 .ret)
 .skip))
 (.seq (.seq (.reg fun _ fr h k =>
  obind (pFa 1 (Tr.get .bad q2 fr)) fun v0 =>
  obind (rLd1 v0 h) fun v1 =>
  obind (pLenS v1) fun v2 =>
  forceG v1 fun v => Tr.setK .bad v q12 fr fun f12 =>
  forceG v2 fun v => Tr.setK .bad v q13 f12 fun f13 =>
  forceG (.int .i64 (.ofNat 0)) fun v => Tr.setK .bad v q14 f13 fun f14 =>
  k f14 h)
 (.block 0 (.loop (.seq (.reg fun _ fr h k =>
  obind (pLss (Tr.get .bad q14 fr) (Tr.get .bad q13 fr)) fun v0 =>
  forceG v0 fun v => Tr.setK .bad v q15 fr fun f15 =>
  k f15 h)
 (.seq (.cond 15 q15 .skip
 (.exit 0))
 (.seq (.block 1 (.seq (.reg fun _ fr h k =>
  obind (pIdxS 1 (Tr.get .bad q12 fr) (Tr.get .bad q14 fr)) fun v0 =>
  obind (rLd1 v0 h) fun v1 =>
  forceG (Tr.get .bad q14 fr) fun v => Tr.setK .bad v q5 fr fun f5 =>
  forceG v1 fun v => Tr.setK .bad v q6 f5 fun f6 =>
  k f6 h)
 (.seq (.reg fun call fr h k =>
  obind (pFa 0 (Tr.get .bad q2 fr)) fun v0 =>
  obind (rLd1 v0 h) fun v1 =>
  obind (pMul (.int .i64 (.ofNat 4)) (Tr.get .bad q5 fr)) fun v2 =>
  obind (pConv .u32 v2) fun v3 =>
  obind (pAdd v1 v3) fun v4 =>
  call q24 [(Tr.get .bad q1 fr), v4, (.int .i64 (.ofNat 4))] h fun v5 h6 =>
  obind (pExt 0 v5) fun v6 =>
  obind (pExt 1 v5) fun v7 =>
  forceG v6 fun v => Tr.setK .bad v q7 fr fun f7 =>
  forceG v7 fun v => Tr.setK .bad v q8 f7 fun f8 =>
  k f8 h6)
 (.seq (.reg fun _ fr h k =>
  obind (pNot (Tr.get .bad q8 fr)) fun v0 =>
  guardC v0 false h (fun k => k (Tr.get .bad q7 fr) h) fun v1 h2 =>
  guardC v0 false h2 (fun k => k (Tr.get .bad q6 fr) h2) fun v2 h3 =>
  guardC v0 false h3 (fun k => obind (pNeq v1 v2) fun v => k v h3) fun v3 h4 =>
  obind (pPick v0 (.bool true) v3) fun v4 =>
  forceG v4 fun v => Tr.setK .bad v q36 fr fun f36 =>
  k f36 h4)
 (.cond 36 q36 (.seq (.reg fun _ fr h k =>
  forceG (.bool false) fun v => Tr.setK .bad v q4 fr fun f4 =>
  k f4 h)
 .ret)
 .skip)))))
 (.reg fun _ fr h k =>
  obind (pAdd (Tr.get .bad q14 fr) (.int .i64 (.ofNat 1))) fun v0 =>
  forceG v0 fun v => Tr.setK .bad v q14 fr fun f14 =>
  k f14 h)))))))
 (.seq (.reg fun _ fr h k =>
  forceG (.bool true) fun v => Tr.setK .bad v q4 fr fun f4 =>
  k f4 h)
 .ret)))), resF [.t 4]⟩
theorem g26_ok : Comp Tryz.prog Tryz.f26 2 [2, 4, 5, 6, 7, 8, 10, 12, 13, 14, 15, 36] g26 := ⟨_, [.t 4], rfl, by kernel_rfl, by decide, by kernel_rfl, by kernel_rfl, rfl, rfl⟩
/-- pianola/ram.New -/
def g27 : GFunc := ⟨1, (.seq (.reg fun _ fr h k =>
  forceG .nilp fun v => Tr.setK .bad v q2 fr fun f2 =>
  k f2 h)
 (.seq (.reg fun _ fr h k =>
  obind (pMin (Tr.get .bad q0 fr) (.int .i64 (.ofNat 64))) fun v0 =>
  obind (pMax (.int .i64 (.ofNat 1)) v0) fun v1 =>
  forceG v1 fun v => Tr.setK .bad v q3 fr fun f3 =>
  k f3 h)
 (.seq (.reg fun _ fr h k =>
  obind (pMul (Tr.get .bad q3 fr) (.int .i64 (.ofNat 1024))) fun v0 =>
  obind2 (nMakeS [.int .u8 (.ofNat 0)] 1 1 (some (.u8, 8)) v0 v0 h) fun v1 h2 =>
  obind2 (nMakeS [.bool false] 1 1 none (Tr.get .bad q3 fr) (Tr.get .bad q3 fr) h2) fun v2 h3 =>
  obind2 (nMakeS [.bool false] 1 1 none (Tr.get .bad q3 fr) (Tr.get .bad q3 fr) h3) fun v3 h4 =>
  obind (pBuild [.nils, .nils, .nils] [(0, 1, v1), (1, 1, v2), (2, 1, v3)]) fun v4 =>
  obind2 (nBox v4 h4) fun v5 h6 =>
  forceG v5 fun v => Tr.setK .bad v q2 fr fun f2 =>
  k f2 h6)
 .ret))), resF [.t 2]⟩
theorem g27_ok : Comp Tryz.prog Tryz.f27 1 [2, 3] g27 := ⟨_, [.t 2], rfl, by kernel_rfl, by decide, by kernel_rfl, by kernel_rfl, rfl, rfl⟩
/-- (*pianola/ram.Ram).Put -/
def g29 : GFunc := ⟨3, (.seq (.reg fun _ fr h k =>
  forceG (.bool false) fun v => Tr.setK .bad v q6 fr fun f6 =>
  k f6 h)
 (.seq (.seq (.reg fun call fr h k =>
  obind (pLenS (Tr.get .bad q2 fr)) fun v0 =>
  call q77 [(Tr.get .bad q0 fr), (Tr.get .bad q1 fr), v0] h fun v1 h2 =>
  obind (pNot v1) fun v2 =>
  forceG v2 fun v => Tr.setK .bad v q12 fr fun f12 =>
  k f12 h2)
 (.cond 12 q12 (.seq (.reg fun _ fr h k =>
  forceG (.bool false) fun v => Tr.setK .bad v q6 fr fun f6 =>
  k f6 h)
 .ret)
 .skip))
 (.seq (.reg fun _ fr h k =>
  obind (pNilck (Tr.get .bad q0 fr)) fun v0 =>
  obind (pFa 0 v0) fun v1 =>
  obind (rLd1 v1 h) fun v2 =>
  obind (pSlS 1 (some (Tr.get .bad q1 fr)) none none v2) fun v3 =>
  obind2 (nCopy 1 v3 (Tr.get .bad q2 fr) h) fun _ h5 =>
  k fr h5)
 (.seq (.reg fun call fr h k =>
  obind (pLenS (Tr.get .bad q2 fr)) fun v0 =>
  call q76 [(Tr.get .bad q0 fr), (Tr.get .bad q1 fr), v0] h fun _ h2 =>
  k fr h2)
 (.seq (.reg fun _ fr h k =>
  forceG (.bool true) fun v => Tr.setK .bad v q6 fr fun f6 =>
  k f6 h)
 .ret))))), resF [.t 6]⟩
theorem g29_ok : Comp Tryz.prog Tryz.f29 3 [6, 12] g29 := ⟨_, [.t 6], rfl, by kernel_rfl, by decide, by kernel_rfl, by kernel_rfl, rfl, rfl⟩
/-- (*pianola/ram.Ram).Size -/
def g30 : GFunc := ⟨1, (.seq (.reg fun _ fr h k =>
  forceG (.int .u32 (.ofNat 0)) fun v => Tr.setK .bad v q2 fr fun f2 =>
  k f2 h)
 (.seq (.reg fun _ fr h k =>
  obind (pNilck (Tr.get .bad q0 fr)) fun v0 =>
  obind (pFa 0 v0) fun v1 =>
  obind (rLd1 v1 h) fun v2 =>
  obind (pLenS v2) fun v3 =>
  obind (pConv .u32 v3) fun v4 =>
  forceG v4 fun v => Tr.setK .bad v q2 fr fun f2 =>
  k f2 h)
 .ret)), resF [.t 2]⟩
theorem g30_ok : Comp Tryz.prog Tryz.f30 1 [2] g30 := ⟨_, [.t 2], rfl, by kernel_rfl, by decide, by kernel_rfl, by kernel_rfl, rfl, rfl⟩
/-- pianola/pianolaref2.New -/
def g36 : GFunc := ⟨1, (.seq (.reg fun _ fr h k =>
  forceG .nilp fun v => Tr.setK .bad v q2 fr fun f2 =>
  k f2 h)
 (.seq (.reg fun _ fr h k =>
  obind (pMin (Tr.get .bad q0 fr) (.int .i64 (.ofNat 64))) fun v0 =>
  obind (pMax v0 (.int .i64 (.ofNat 1))) fun v1 =>
  forceG v1 fun v => Tr.setK .bad v q3 fr fun f3 =>
  k f3 h)
 (.seq (.reg fun _ fr h k =>
  obind (pMul (Tr.get .bad q3 fr) (.int .i64 (.ofNat 1024))) fun v0 =>
  obind2 (nMakeS [.int .u8 (.ofNat 0)] 1 1 (some (.u8, 8)) v0 v0 h) fun v1 h2 =>
  obind2 (nMakeS [.bool false] 1 1 none (Tr.get .bad q3 fr) (Tr.get .bad q3 fr) h2) fun v2 h3 =>
  obind2 (nMakeS [.bool false] 1 1 none (Tr.get .bad q3 fr) (Tr.get .bad q3 fr) h3) fun v3 h4 =>
  obind (pBuild [.nils, .nils, .nils] [(0, 1, v1), (1, 1, v2), (2, 1, v3)]) fun v4 =>
  obind2 (nBox v4 h4) fun v5 h6 =>
  forceG v5 fun v => Tr.setK .bad v q2 fr fun f2 =>
  k f2 h6)
 .ret))), resF [.t 2]⟩
theorem g36_ok : Comp Tryz.prog Tryz.f36 1 [2, 3] g36 := ⟨_, [.t 2], rfl, by kernel_rfl, by decide, by kernel_rfl, by kernel_rfl, rfl, rfl⟩
/-- (*pianola/pianolaref2.Ram).Load -/
def g40 : GFunc := ⟨3, (.seq (.reg fun _ fr h k =>
  forceG (.int .u32 (.ofNat 0)) fun v => Tr.setK .bad v q6 fr fun f6 =>
  forceG (.bool false) fun v => Tr.setK .bad v q7 f6 fun f7 =>
  k f7 h)
 (.seq (.seq (.reg fun call fr h k =>
  obind (pNeq (Tr.get .bad q2 fr) (.int .i64 (.ofNat 1))) fun v0 =>
  guardC v0 true h (fun k => k (Tr.get .bad q2 fr) h) fun v1 h2 =>
  guardC v0 true h2 (fun k => obind (pNeq v1 (.int .i64 (.ofNat 2))) fun v => k v h2) fun v2 h3 =>
  obind (pPick v0 v2 (.bool false)) fun v3 =>
  guardC v3 true h3 (fun k => k (Tr.get .bad q2 fr) h3) fun v4 h5 =>
  guardC v3 true h5 (fun k => obind (pNeq v4 (.int .i64 (.ofNat 4))) fun v => k v h5) fun v5 h6 =>
  obind (pPick v3 v5 (.bool false)) fun v6 =>
  guardC v6 false h6 (fun k => k (Tr.get .bad q1 fr) h6) fun v7 h8 =>
  guardC v6 false h8 (fun k => k (Tr.get .bad q2 fr) h8) fun v8 h9 =>
  guardC v6 false h9 (fun k => obind (pConv .u32 v8) fun v => k v h9) fun v9 h10 =>
  guardC v6 false h10 (fun k => obind (pRem v7 v9) fun v => k v h10) fun v10 h11 =>
  guardC v6 false h11 (fun k => obind (pNeq v10 (.int .u32 (.ofNat 0))) fun v => k v h11) fun v11 h12 =>
  obind (pPick v6 (.bool true) v11) fun v12 =>
  guardC v12 false h12 (fun k => k (Tr.get .bad q0 fr) h12) fun v13 h14 =>
  guardC v12 false h14 (fun k => k (Tr.get .bad q1 fr) h14) fun v14 h15 =>
  guardC v12 false h15 (fun k => k (Tr.get .bad q2 fr) h15) fun v15 h16 =>
  guardC v12 false h16 (fun k => call q85 [v13, v14, v15] h16 k) fun v16 h17 =>
  guardC v12 false h17 (fun k => obind (pNot v16) fun v => k v h17) fun v17 h18 =>
  obind (pPick v12 (.bool true) v17) fun v18 =>
  forceG v18 fun v => Tr.setK .bad v q33 fr fun f33 =>
  k f33 h18)
 (.cond 33 q33 (.seq (.reg fun _ fr h k =>
  forceG (.int .u32 (.ofNat 0)) fun v => Tr.setK .bad v q6 fr fun f6 =>
  forceG (.bool false) fun v => Tr.setK .bad v q7 f6 fun f7 =>
  k f7 h)
 .ret)
 .skip))
 (.seq (.reg fun _ fr h k =>
  forceG (.int .u32 (.ofNat 0)) fun v => Tr.setK .bad v q8 fr fun f8 =>
  k f8 h)
 (.seq (.seq (.reg fun _ fr h k =>
  forceG (.int .i64 (.ofNat 0)) fun v => Tr.setK .bad v q9 fr fun f9 =>
  k f9 h)
 (.block 0 (.loop (.seq (.seq (.reg fun _ fr h k =>
  obind (pLss (Tr.get .bad q9 fr) (Tr.get .bad q2 fr)) fun v0 =>
  forceG v0 fun v => Tr.setK .bad v q36 fr fun f36 =>
  k f36 h)
 (.cond 36 q36 .skip
 (.exit 0)))
 (.seq (.block 1 (.reg fun _ fr h k =>
  obind (pShl (Tr.get .bad q8 fr) (.int .u64 (.ofNat 8))) fun v0 =>
  obind (pNilck (Tr.get .bad q0 fr)) fun v1 =>
  obind (pFa 0 v1) fun v2 =>
  obind (rLd1 v2 h) fun v3 =>
  obind (pConv .i64 (Tr.get .bad q1 fr)) fun v4 =>
  obind (pAdd v4 (Tr.get .bad q9 fr)) fun v5 =>
  obind (pIdxS 1 v3 v5) fun v6 =>
  obind (rLd1 v6 h) fun v7 =>
  obind (pConv .u32 v7) fun v8 =>
  obind (pOr v0 v8) fun v9 =>
  forceG v9 fun v => Tr.setK .bad v q8 fr fun f8 =>
  k f8 h))
 (.reg fun _ fr h k =>
  obind (pAdd (Tr.get .bad q9 fr) (.int .i64 (.ofNat 1))) fun v0 =>
  forceG v0 fun v => Tr.setK .bad v q9 fr fun f9 =>
  k f9 h))))))
 (.seq (.reg fun _ fr h k =>
  forceG (Tr.get .bad q8 fr) fun v => Tr.setK .bad v q6 fr fun f6 =>
  forceG (.bool true) fun v => Tr.setK .bad v q7 f6 fun f7 =>
  k f7 h)
 .ret))))), resF [.t 6, .t 7]⟩
theorem g40_ok : Comp Tryz.prog Tryz.f40 3 [6, 7, 8, 9, 33, 36] g40 := ⟨_, [.t 6, .t 7], rfl, by kernel_rfl, by decide, by kernel_rfl, by kernel_rfl, rfl, rfl⟩
/-- pianola/pianolaref15.where -/
def g41 : GFunc := ⟨2, (.seq (.reg fun _ fr h k =>
  forceG (.int .i64 (.ofNat 0)) fun v => Tr.setK .bad v q4 fr fun f4 =>
  forceG (.int .u32 (.ofNat 0)) fun v => Tr.setK .bad v q5 f4 fun f5 =>
  forceG (.bool false) fun v => Tr.setK .bad v q6 f5 fun f6 =>
  k f6 h)
 (.seq (.seq (.reg fun _ fr h k =>
  obind (pNeq (Tr.get .bad q1 fr) (.int .i64 (.ofNat 4))) fun v0 =>
  guardC v0 false h (fun k => k (Tr.get .bad q0 fr) h) fun v1 h2 =>
  guardC v0 false h2 (fun k => obind (pLss v1 (.int .u32 (.ofNat 520093696))) fun v => k v h2) fun v2 h3 =>
  obind (pPick v0 (.bool true) v2) fun v3 =>
  guardC v3 false h3 (fun k => k (Tr.get .bad q0 fr) h3) fun v4 h5 =>
  guardC v3 false h5 (fun k => obind (pGeq v4 (.int .u32 (.ofNat 520094080))) fun v => k v h5) fun v5 h6 =>
  obind (pPick v3 (.bool true) v5) fun v6 =>
  guardC v6 false h6 (fun k => k (Tr.get .bad q0 fr) h6) fun v7 h8 =>
  guardC v6 false h8 (fun k => obind (pRem v7 (.int .u32 (.ofNat 4))) fun v => k v h8) fun v8 h9 =>
  guardC v6 false h9 (fun k => obind (pNeq v8 (.int .u32 (.ofNat 0))) fun v => k v h9) fun v9 h10 =>
  obind (pPick v6 (.bool true) v9) fun v10 =>
  forceG v10 fun v => Tr.setK .bad v q22 fr fun f22 =>
  k f22 h10)
 (.cond 22 q22 (.seq (.reg fun _ fr h k =>
  forceG (.int .i64 (.ofNat 0)) fun v => Tr.setK .bad v q4 fr fun f4 =>
  forceG (.int .u32 (.ofNat 0)) fun v => Tr.setK .bad v q5 f4 fun f5 =>
  forceG (.bool false) fun v => Tr.setK .bad v q6 f5 fun f6 =>
  k f6 h)
 .ret)
 .skip))
 (.seq (.reg fun _ fr h k =>
  obind (pSub (Tr.get .bad q0 fr) (.int .u32 (.ofNat 520093696))) fun v0 =>
  forceG v0 fun v => Tr.setK .bad v q7 fr fun f7 =>
  k f7 h)
 (.seq (.reg fun _ fr h k =>
  obind (pQuo (Tr.get .bad q7 fr) (.int .u32 (.ofNat 64))) fun v0 =>
  obind (pConv .i64 v0) fun v1 =>
  obind (pRem (Tr.get .bad q7 fr) (.int .u32 (.ofNat 64))) fun v2 =>
  forceG v1 fun v => Tr.setK .bad v q4 fr fun f4 =>
  forceG v2 fun v => Tr.setK .bad v q5 f4 fun f5 =>
  forceG (.bool true) fun v => Tr.setK .bad v q6 f5 fun f6 =>
  k f6 h)
 .ret)))), resF [.t 4, .t 5, .t 6]⟩
theorem g41_ok : Comp Tryz.prog Tryz.f41 2 [4, 5, 6, 7, 22] g41 := ⟨_, [.t 4, .t 5, .t 6], rfl, by kernel_rfl, by decide, by kernel_rfl, by kernel_rfl, rfl, rfl⟩
end
end Go.Ev
