/- Joined: CuCmpD CuCmpW. -/
import Derived.Test.YtmlhdhndjgdoaaaGreatDoorCuPatD
import Derived.Test.YtmlhdhndjgdoaaaGreatDoorCuNat

/- Atoms, parts, words put together, in normal form. Of no program. -/
namespace Go.Ev
set_option linter.unusedSimpArgs false
set_option linter.unusedVariables false
set_option maxRecDepth 100000

/-! cubit/compose.Name -/
noncomputable def cname (a0 : List UInt8) : Option (List UInt8) :=
((repl a0 [123, 48, 125] [] 1).bind fun x0 =>
(cond (x0 == [])
(some (x0))
((loopK trR FU (0, [(.v (.str x0)), (.v (.int .u8 32))])).bind fun x5 => sel x5.1 [((asStr? (hV x5.2 0)).bind fun x6 =>
((loopK trL FU (0, [(.v (.str x6)), (.v (.int .u8 32))])).bind fun x11 => sel x11.1 [((asStr? (hV x11.2 0)).bind fun x12 =>
(some (x12)))]))])))
/-! cubit/atom.Show -/
noncomputable def ashow (a0 : List UInt8) (a1 : List UInt8) (a2 : Int) : Option (List UInt8) :=
(chk (decide (((a0 : List UInt8).length + (a1 : List UInt8).length) ≤ maxStr))
(cond (decide (a2 < 1))
(some ([]))
(cond (decide (a2 > 15))
(some ([]))
(cond (a2 == 1)
(some ((a0 ++ a1)))
(cond (a2 == 2)
(chk (decide ((([115, 113, 117, 97, 114, 101, 45] : List UInt8).length + ((a0 ++ a1) : List UInt8).length) ≤ maxStr))
(some (([115, 113, 117, 97, 114, 101, 45] ++ (a0 ++ a1)))))
(cond (a2 == 3)
(chk (decide ((([99, 117, 98, 105, 99, 45] : List UInt8).length + ((a0 ++ a1) : List UInt8).length) ≤ maxStr))
(some (([99, 117, 98, 105, 99, 45] ++ (a0 ++ a1)))))
((itoa a2).bind fun x0 =>
(chk (decide ((([112, 111, 119] : List UInt8).length + (x0 : List UInt8).length) ≤ maxStr))
(chk (decide (((([112, 111, 119] ++ x0) : List UInt8).length + ([45] : List UInt8).length) ≤ maxStr))
(chk (decide ((((([112, 111, 119] ++ x0) ++ [45]) : List UInt8).length + ((a0 ++ a1) : List UInt8).length) ≤ maxStr))
(some (((([112, 111, 119] ++ x0) ++ [45]) ++ (a0 ++ a1))))))))))))))
/-! cubit/nat.Of -/
noncomputable def nof (a0 : Int) : Option (Option (List V)) :=
((ntrim (some [(.int .u32 (IntKind.wrap .u32 (a0))), (.int .u32 (IntKind.wrap .u32 ((Int.fdiv a0 (2 ^ (min (Int.toNat 32) (IntKind.bits .u64)))))))])).bind fun x0 =>
(some (x0)))
/-! cubit/nat.order -/
noncomputable def norder (a0 : Bool) : Option (Int) :=
(cond a0
(some ((-1)))
(some (1)))
/-! cubit/nat.Cmp -/
noncomputable def ncmp_L0 (v : Vs) : Option (Vs ⊕ Vs) := sel v.1 [((asSl? (hV v.2 0)).bind fun x3 =>
((asSl? (hV v.2 1)).bind fun x4 =>
((asInt? .i64 (hV v.2 2)).bind fun x5 =>
(cond (decide (x5 ≥ 0))
((idxL (x3.getD []) x5).bind fun x6 =>
((asInt? .u32 x6).bind fun x7 =>
((idxL (x4.getD []) x5).bind fun x8 =>
((asInt? .u32 x8).bind fun x9 =>
(cond (x7 != x9)
((idxL (x3.getD []) x5).bind fun x10 =>
((asInt? .u32 x10).bind fun x11 =>
((idxL (x4.getD []) x5).bind fun x12 =>
((asInt? .u32 x12).bind fun x13 =>
((norder (decide (x11 < x13))).bind fun x14 =>
(some (.inr (0, [(.v (.int .i64 x14))]))))))))
(some (.inl (0, [(.v (.sl x3)), (.v (.sl x4)), (.v (.int .i64 (IntKind.wrap .i64 (x5 - 1))))]))))))))
(some (.inr (1, [])))))))]
noncomputable def ncmp (a0 : Option (List V)) (a1 : Option (List V)) : Option (Int) :=
((ntrim a0).bind fun x0 =>
((ntrim a1).bind fun x1 =>
(cond (((slLen x0 : Nat) : Int) != ((slLen x1 : Nat) : Int))
((norder (decide (((slLen x0 : Nat) : Int) < ((slLen x1 : Nat) : Int)))).bind fun x2 =>
(some (x2)))
((loopK ncmp_L0 FU (0, [(.v (.sl x0)), (.v (.sl x1)), (.v (.int .i64 (IntKind.wrap .i64 (((slLen x0 : Nat) : Int) - 1))))])).bind fun x15 => sel x15.1 [((asInt? .i64 (hV x15.2 0)).bind fun x16 =>
(some (x16))),
(some (0))]))))
/-! cubit/unit.one -/
noncomputable def uone  : Option (Option (List V)) :=
((nof 1).bind fun x0 =>
(some (x0)))
/-! cubit/unit.ShowPart -/
noncomputable def ushow_L0 (v : Vs) : Option (Vs ⊕ Vs) := sel v.1 [((asSl? (hV v.2 0)).bind fun x0 =>
((asInt? .i64 (hV v.2 1)).bind fun x1 =>
((asInt? .i64 (hV v.2 2)).bind fun x2 =>
((asSl? (hV v.2 3)).bind fun x3 =>
((asSl? (hV v.2 4)).bind fun x4 =>
((asSl? (hV v.2 5)).bind fun x5 =>
(cond (decide (x2 < x1))
((idxL (x0.getD []) x2).bind fun x6 =>
((asAgg? 3 x6).bind fun x7 =>
((asStr? (x7.getD 0 .nilp)).bind fun x8 =>
((asStr? (x7.getD 1 .nilp)).bind fun x9 =>
((asInt? .i64 (x7.getD 2 .nilp)).bind fun x10 =>
((ashow x8 x9 x10).bind fun x11 =>
(some (.inl (1, [(.v (.sl x0)), (.v (.int .i64 x1)), (.v (.int .i64 (IntKind.wrap .i64 (x2 + 1)))), (.v (.sl x3)), (.v (.sl x4)), (.v (.sl x5)), (.l [(.str x11)])])))))))))
(some (.inr (0, [(.v (.sl x3)), (.v (.sl x4)), (.v (.sl x5))])))))))))),
((asSl? (hV v.2 0)).bind fun x12 =>
((asInt? .i64 (hV v.2 1)).bind fun x13 =>
((asInt? .i64 (hV v.2 2)).bind fun x14 =>
((asSl? (hV v.2 3)).bind fun x15 =>
((asSl? (hV v.2 4)).bind fun x16 =>
((asSl? (hV v.2 5)).bind fun x17 =>
(cond (decide (x14 < x13))
((idxL (x12.getD []) x14).bind fun x18 =>
((asAgg? 3 x18).bind fun x19 =>
((asStr? (x19.getD 0 .nilp)).bind fun x20 =>
((asStr? (x19.getD 1 .nilp)).bind fun x21 =>
((asInt? .i64 (x19.getD 2 .nilp)).bind fun x22 =>
((ashow x20 x21 x22).bind fun x23 =>
(chk ((fits ((hL v.2 6).length + 1)) && true)
(some (.inl (1, [(.v (.sl x12)), (.v (.int .i64 x13)), (.v (.int .i64 (IntKind.wrap .i64 (x14 + 1)))), (.v (.sl x15)), (.v (.sl x16)), (.v (.sl x17)), (.l ((hL v.2 6) ++ [(.str x23)] : List V))]))))))))))
(some (.inr (1, [(.v (.sl x15)), (.v (.sl x16)), (.v (.sl x17)), (.l (hL v.2 6))]))))))))))]
noncomputable def ushow_L1 (v : Vs) : Option (Vs ⊕ Vs) := sel v.1 [((asSl? (hV v.2 0)).bind fun x31 =>
((asInt? .i64 (hV v.2 1)).bind fun x32 =>
((asInt? .i64 (hV v.2 2)).bind fun x33 =>
(cond (decide (x33 < x32))
((idxL (x31.getD []) x33).bind fun x34 =>
((asAgg? 3 x34).bind fun x35 =>
((asStr? (x35.getD 0 .nilp)).bind fun x36 =>
((asStr? (x35.getD 1 .nilp)).bind fun x37 =>
((asInt? .i64 (x35.getD 2 .nilp)).bind fun x38 =>
((ashow x36 x37 x38).bind fun x39 =>
(some (.inl (1, [(.v (.sl x31)), (.v (.int .i64 x32)), (.v (.int .i64 (IntKind.wrap .i64 (x33 + 1)))), (.l [(.str x39)])])))))))))
(some (.inr (0, []))))))),
((asSl? (hV v.2 0)).bind fun x40 =>
((asInt? .i64 (hV v.2 1)).bind fun x41 =>
((asInt? .i64 (hV v.2 2)).bind fun x42 =>
(cond (decide (x42 < x41))
((idxL (x40.getD []) x42).bind fun x43 =>
((asAgg? 3 x43).bind fun x44 =>
((asStr? (x44.getD 0 .nilp)).bind fun x45 =>
((asStr? (x44.getD 1 .nilp)).bind fun x46 =>
((asInt? .i64 (x44.getD 2 .nilp)).bind fun x47 =>
((ashow x45 x46 x47).bind fun x48 =>
(chk ((fits ((hL v.2 3).length + 1)) && true)
(some (.inl (1, [(.v (.sl x40)), (.v (.int .i64 x41)), (.v (.int .i64 (IntKind.wrap .i64 (x42 + 1)))), (.l ((hL v.2 3) ++ [(.str x48)] : List V))]))))))))))
(some (.inr (1, [(.l (hL v.2 3))])))))))]
noncomputable def ushow (a0 : Option (List V)) (a1 : Option (List V)) (a2 : Option (List V)) : Option (List UInt8) :=
((loopK ushow_L0 FU (0, [(.v (.sl a0)), (.v (.int .i64 ((slLen a0 : Nat) : Int))), (.v (.int .i64 0)), (.v (.sl a0)), (.v (.sl a1)), (.v (.sl a2))])).bind fun x24 => sel x24.1 [((asSl? (hV x24.2 0)).bind fun x25 =>
((asSl? (hV x24.2 1)).bind fun x26 =>
((asSl? (hV x24.2 2)).bind fun x27 =>
((uone ).bind fun x28 =>
((ncmp x27 x28).bind fun x29 =>
(cond (x29 != 0)
(cond (x29 != 0)
((ntext x27).bind fun x30 =>
((loopK ushow_L1 FU (1, [(.v (.sl x26)), (.v (.int .i64 ((slLen x26 : Nat) : Int))), (.v (.int .i64 0)), (.l [(.str [112, 101, 114]), (.str x30)])])).bind fun x49 => sel x49.1 [((sJoin none [45]).bind fun x50 =>
(some (x50))),
((sJoin (some (hL x49.2 0)) [45]).bind fun x51 =>
(some (x51)))]))
((loopK ushow_L1 FU (1, [(.v (.sl x26)), (.v (.int .i64 ((slLen x26 : Nat) : Int))), (.v (.int .i64 0)), (.l [(.str [112, 101, 114])])])).bind fun x70 => sel x70.1 [((sJoin none [45]).bind fun x71 =>
(some (x71))),
((sJoin (some (hL x70.2 0)) [45]).bind fun x72 =>
(some (x72)))]))
(cond (decide (((slLen x26 : Nat) : Int) > 0))
(cond (x29 != 0)
((ntext x27).bind fun x73 =>
((loopK ushow_L1 FU (1, [(.v (.sl x26)), (.v (.int .i64 ((slLen x26 : Nat) : Int))), (.v (.int .i64 0)), (.l [(.str [112, 101, 114]), (.str x73)])])).bind fun x92 => sel x92.1 [((sJoin none [45]).bind fun x93 =>
(some (x93))),
((sJoin (some (hL x92.2 0)) [45]).bind fun x94 =>
(some (x94)))]))
((loopK ushow_L1 FU (1, [(.v (.sl x26)), (.v (.int .i64 ((slLen x26 : Nat) : Int))), (.v (.int .i64 0)), (.l [(.str [112, 101, 114])])])).bind fun x113 => sel x113.1 [((sJoin none [45]).bind fun x114 =>
(some (x114))),
((sJoin (some (hL x113.2 0)) [45]).bind fun x115 =>
(some (x115)))]))
(cond (x29 != 0)
((ntext x27).bind fun x116 =>
((loopK ushow_L1 FU (1, [(.v (.sl x26)), (.v (.int .i64 ((slLen x26 : Nat) : Int))), (.v (.int .i64 0)), (.l [(.str x116)])])).bind fun x135 => sel x135.1 [((sJoin none [45]).bind fun x136 =>
(some (x136))),
((sJoin (some (hL x135.2 0)) [45]).bind fun x137 =>
(some (x137)))]))
((loopK ushow_L1 FU (0, [(.v (.sl x26)), (.v (.int .i64 ((slLen x26 : Nat) : Int))), (.v (.int .i64 0))])).bind fun x156 => sel x156.1 [((sJoin none [45]).bind fun x157 =>
(some (x157))),
((sJoin (some (hL x156.2 0)) [45]).bind fun x158 =>
(some (x158)))]))))))))),
((asSl? (hV x24.2 0)).bind fun x159 =>
((asSl? (hV x24.2 1)).bind fun x160 =>
((asSl? (hV x24.2 2)).bind fun x161 =>
((uone ).bind fun x162 =>
((ncmp x161 x162).bind fun x163 =>
(cond (x163 != 0)
(chk ((fits ((hL x24.2 3).length + 1)) && true)
(cond (x163 != 0)
((ntext x161).bind fun x164 =>
(chk ((fits (((hL x24.2 3) ++ [(.str [112, 101, 114])] : List V).length + 1)) && true)
((loopK ushow_L1 FU (1, [(.v (.sl x160)), (.v (.int .i64 ((slLen x160 : Nat) : Int))), (.v (.int .i64 0)), (.l (((hL x24.2 3) ++ [(.str [112, 101, 114])] : List V) ++ [(.str x164)] : List V))])).bind fun x183 => sel x183.1 [((sJoin none [45]).bind fun x184 =>
(some (x184))),
((sJoin (some (hL x183.2 0)) [45]).bind fun x185 =>
(some (x185)))])))
((loopK ushow_L1 FU (1, [(.v (.sl x160)), (.v (.int .i64 ((slLen x160 : Nat) : Int))), (.v (.int .i64 0)), (.l ((hL x24.2 3) ++ [(.str [112, 101, 114])] : List V))])).bind fun x204 => sel x204.1 [((sJoin none [45]).bind fun x205 =>
(some (x205))),
((sJoin (some (hL x204.2 0)) [45]).bind fun x206 =>
(some (x206)))])))
(cond (decide (((slLen x160 : Nat) : Int) > 0))
(chk ((fits ((hL x24.2 3).length + 1)) && true)
(cond (x163 != 0)
((ntext x161).bind fun x207 =>
(chk ((fits (((hL x24.2 3) ++ [(.str [112, 101, 114])] : List V).length + 1)) && true)
((loopK ushow_L1 FU (1, [(.v (.sl x160)), (.v (.int .i64 ((slLen x160 : Nat) : Int))), (.v (.int .i64 0)), (.l (((hL x24.2 3) ++ [(.str [112, 101, 114])] : List V) ++ [(.str x207)] : List V))])).bind fun x226 => sel x226.1 [((sJoin none [45]).bind fun x227 =>
(some (x227))),
((sJoin (some (hL x226.2 0)) [45]).bind fun x228 =>
(some (x228)))])))
((loopK ushow_L1 FU (1, [(.v (.sl x160)), (.v (.int .i64 ((slLen x160 : Nat) : Int))), (.v (.int .i64 0)), (.l ((hL x24.2 3) ++ [(.str [112, 101, 114])] : List V))])).bind fun x247 => sel x247.1 [((sJoin none [45]).bind fun x248 =>
(some (x248))),
((sJoin (some (hL x247.2 0)) [45]).bind fun x249 =>
(some (x249)))])))
(cond (x163 != 0)
((ntext x161).bind fun x250 =>
(chk ((fits ((hL x24.2 3).length + 1)) && true)
((loopK ushow_L1 FU (1, [(.v (.sl x160)), (.v (.int .i64 ((slLen x160 : Nat) : Int))), (.v (.int .i64 0)), (.l ((hL x24.2 3) ++ [(.str x250)] : List V))])).bind fun x269 => sel x269.1 [((sJoin none [45]).bind fun x270 =>
(some (x270))),
((sJoin (some (hL x269.2 0)) [45]).bind fun x271 =>
(some (x271)))])))
((loopK ushow_L1 FU (1, [(.v (.sl x160)), (.v (.int .i64 ((slLen x160 : Nat) : Int))), (.v (.int .i64 0)), (.l (hL x24.2 3))])).bind fun x290 => sel x290.1 [((sJoin none [45]).bind fun x291 =>
(some (x291))),
((sJoin (some (hL x290.2 0)) [45]).bind fun x292 =>
(some (x292)))])))))))))])
/-! (cubit/compose.How).word -/
noncomputable def hword (a0 : List UInt8) (a1 : List UInt8) (a2 : List UInt8) (a3 : List UInt8) (a4 : Option (List V)) (a5 : List UInt8) : Option (List UInt8 × Bool) :=
((pfind a4 [119, 111, 114, 100] a0 a1 a5 a2 a3).bind fun x0 =>
(some (x0.1, x0.2)))
/-! (cubit/compose.How).fill -/
noncomputable def hfill (a0 : List UInt8) (a1 : List UInt8) (a2 : List UInt8) (a3 : List UInt8) (a4 : Option (List V)) (a5 : List UInt8) (a6 : List UInt8) (a7 : List UInt8) (a8 : Option (List V)) : Option (List UInt8 × Int) :=
((pfind a4 a5 a0 a1 a6 a7 []).bind fun x0 =>
(cond (!x0.2)
(some ([], 9))
((pfill x0.1 a8).bind fun x1 =>
(some (x1, 0)))))
/-! (cubit/compose.How).one -/
noncomputable def hone (a0 : List UInt8) (a1 : List UInt8) (a2 : List UInt8) (a3 : List UInt8) : Option (List UInt8 × List UInt8 × List UInt8 × List UInt8) :=
(some (a0, a1, [111, 110, 101], []))
/-! cubit/compose.Atom -/
noncomputable def catom (a0 : Option (List V)) (a1 : Option (List V)) (a2 : List UInt8) (a3 : List UInt8) (a4 : List UInt8) (a5 : List UInt8) (a6 : List UInt8) (a7 : List UInt8) (a8 : Int) : Option (List UInt8 × Int) :=
((ashow a6 a7 a8).bind fun x0 =>
((hword a2 a3 a4 a5 a0 x0).bind fun x1 =>
(cond x1.2
((cname x1.1).bind fun x2 =>
(some (x2, 0)))
((hword a2 a3 a4 a5 a0 a7).bind fun x3 =>
(cond (!x3.2)
(some ([], 9))
((cname x3.1).bind fun x4 =>
(cond (!(a6 == []))
((hfill a2 a3 a4 a5 a0 [112, 114, 101, 102, 105, 120, 101, 100] a6 [] (some [(.str x4)])).bind fun x5 =>
(cond (x5.2 != 0)
(some ([], x5.2))
(cond (decide (a8 > 1))
((itoa a8).bind fun x6 =>
((gatom a1 a2 a6 a7 a8).bind fun x7 =>
((hfill a2 a3 a4 a5 a0 [112, 111, 119, 101, 114] x6 x7 (some [(.str x5.1)])).bind fun x8 =>
(cond (x8.2 != 0)
(some ([], x8.2))
(some (x8.1, 0))))))
(some (x5.1, 0)))))
(cond (decide (a8 > 1))
((itoa a8).bind fun x9 =>
((gatom a1 a2 a6 a7 a8).bind fun x10 =>
((hfill a2 a3 a4 a5 a0 [112, 111, 119, 101, 114] x9 x10 (some [(.str x4)])).bind fun x11 =>
(cond (x11.2 != 0)
(some ([], x11.2))
(some (x11.1, 0))))))
(some (x4, 0))))))))))
/-! cubit/compose.Row -/
noncomputable def crow_L0 (v : Vs) : Option (Vs ⊕ Vs) := sel v.1 [((asPt? (hV v.2 0)).bind fun x0 =>
((asPt? (hV v.2 1)).bind fun x1 =>
((asSl? (hV v.2 2)).bind fun x2 =>
((asStr? (hV v.2 3)).bind fun x3 =>
((asSl? (hV v.2 4)).bind fun x4 =>
((asInt? .i64 (hV v.2 5)).bind fun x5 =>
((asInt? .i64 (hV v.2 6)).bind fun x6 =>
((asStr? (hV v.2 7)).bind fun x7 =>
((asStr? (hV v.2 8)).bind fun x8 =>
((asStr? (hV v.2 9)).bind fun x9 =>
((asStr? (hV v.2 10)).bind fun x10 =>
(cond (decide (x6 < x5))
((idxL (x4.getD []) x6).bind fun x11 =>
((asAgg? 3 x11).bind fun x12 =>
((asStr? (x12.getD 0 .nilp)).bind fun x13 =>
((asStr? (x12.getD 1 .nilp)).bind fun x14 =>
((asInt? .i64 (x12.getD 2 .nilp)).bind fun x15 =>
((hone x7 x8 x9 x10).bind fun x16 =>
(cond (x6 == (IntKind.wrap .i64 (((slLen x2 : Nat) : Int) - 1)))
((catom x0 x1 x7 x8 x9 x10 x13 x14 x15).bind fun x17 =>
(cond (x17.2 == 0)
(cond (decide (x6 > 0))
((hfill x7 x8 x9 x10 x0 [116, 105, 109, 101, 115] [] [] (some [(.str x3), (.str x17.1)])).bind fun x18 =>
(cond (x18.2 != 0)
(some (.inr (0, [(.v (.str [])), (.v (.int .i64 x18.2))])))
(some (.inl (0, [(.v (.pt x0)), (.v (.pt x1)), (.v (.sl x2)), (.v (.str x18.1)), (.v (.sl x4)), (.v (.int .i64 x5)), (.v (.int .i64 (IntKind.wrap .i64 (x6 + 1)))), (.v (.str x7)), (.v (.str x8)), (.v (.str x9)), (.v (.str x10))])))))
(cond (x17.2 != 0)
(some (.inr (0, [(.v (.str [])), (.v (.int .i64 x17.2))])))
(some (.inl (0, [(.v (.pt x0)), (.v (.pt x1)), (.v (.sl x2)), (.v (.str x17.1)), (.v (.sl x4)), (.v (.int .i64 x5)), (.v (.int .i64 (IntKind.wrap .i64 (x6 + 1)))), (.v (.str x7)), (.v (.str x8)), (.v (.str x9)), (.v (.str x10))])))))
(cond (x17.2 != 0)
(some (.inr (0, [(.v (.str [])), (.v (.int .i64 x17.2))])))
(some (.inl (0, [(.v (.pt x0)), (.v (.pt x1)), (.v (.sl x2)), (.v (.str x17.1)), (.v (.sl x4)), (.v (.int .i64 x5)), (.v (.int .i64 (IntKind.wrap .i64 (x6 + 1)))), (.v (.str x7)), (.v (.str x8)), (.v (.str x9)), (.v (.str x10))]))))))
((catom x0 x1 x16.1 x16.2.1 x16.2.2.1 x16.2.2.2 x13 x14 x15).bind fun x19 =>
(cond (x19.2 == 0)
(cond (decide (x6 > 0))
((hfill x7 x8 x9 x10 x0 [116, 105, 109, 101, 115] [] [] (some [(.str x3), (.str x19.1)])).bind fun x20 =>
(cond (x20.2 != 0)
(some (.inr (0, [(.v (.str [])), (.v (.int .i64 x20.2))])))
(some (.inl (0, [(.v (.pt x0)), (.v (.pt x1)), (.v (.sl x2)), (.v (.str x20.1)), (.v (.sl x4)), (.v (.int .i64 x5)), (.v (.int .i64 (IntKind.wrap .i64 (x6 + 1)))), (.v (.str x7)), (.v (.str x8)), (.v (.str x9)), (.v (.str x10))])))))
(cond (x19.2 != 0)
(some (.inr (0, [(.v (.str [])), (.v (.int .i64 x19.2))])))
(some (.inl (0, [(.v (.pt x0)), (.v (.pt x1)), (.v (.sl x2)), (.v (.str x19.1)), (.v (.sl x4)), (.v (.int .i64 x5)), (.v (.int .i64 (IntKind.wrap .i64 (x6 + 1)))), (.v (.str x7)), (.v (.str x8)), (.v (.str x9)), (.v (.str x10))])))))
(cond (x19.2 != 0)
(some (.inr (0, [(.v (.str [])), (.v (.int .i64 x19.2))])))
(some (.inl (0, [(.v (.pt x0)), (.v (.pt x1)), (.v (.sl x2)), (.v (.str x19.1)), (.v (.sl x4)), (.v (.int .i64 x5)), (.v (.int .i64 (IntKind.wrap .i64 (x6 + 1)))), (.v (.str x7)), (.v (.str x8)), (.v (.str x9)), (.v (.str x10))])))))))))))))
(some (.inr (1, [(.v (.str x3))])))))))))))))))]
noncomputable def crow (a0 : Option (List V)) (a1 : Option (List V)) (a2 : List UInt8) (a3 : List UInt8) (a4 : List UInt8) (a5 : List UInt8) (a6 : Option (List V)) : Option (List UInt8 × Int) :=
((loopK crow_L0 FU (0, [(.v (.pt a0)), (.v (.pt a1)), (.v (.sl a6)), (.v (.str [])), (.v (.sl a6)), (.v (.int .i64 ((slLen a6 : Nat) : Int))), (.v (.int .i64 0)), (.v (.str a2)), (.v (.str a3)), (.v (.str a4)), (.v (.str a5))])).bind fun x21 => sel x21.1 [((asStr? (hV x21.2 0)).bind fun x22 =>
((asInt? .i64 (hV x21.2 1)).bind fun x23 =>
(some (x22, x23)))),
((asStr? (hV x21.2 0)).bind fun x24 =>
(some (x24, 0)))])
/-! cubit/compose.Part -/
noncomputable def cpart (a0 : Option (List V)) (a1 : Option (List V)) (a2 : List UInt8) (a3 : List UInt8) (a4 : List UInt8) (a5 : List UInt8) (a6 : Option (List V)) (a7 : Option (List V)) (a8 : Option (List V)) : Option (List UInt8 × Int) :=
((ushow a6 a7 a8).bind fun x0 =>
((hword a2 a3 a4 a5 a0 x0).bind fun x1 =>
(cond x1.2
((sContains x1.1 [123, 48, 125]).bind fun x2 =>
(cond (!x2)
(chk (decide ((([123, 48, 125, 32] : List UInt8).length + (x1.1 : List UInt8).length) ≤ maxStr))
(some (([123, 48, 125, 32] ++ x1.1), 0)))
(some (x1.1, 0))))
((crow a0 a1 a2 a3 a4 a5 a6).bind fun x3 =>
(cond (x3.2 != 0)
(some ([], x3.2))
((hone a2 a3 a4 a5).bind fun x4 =>
((crow a0 a1 x4.1 x4.2.1 x4.2.2.1 x4.2.2.2 a7).bind fun x5 =>
(cond (x5.2 != 0)
(some ([], x5.2))
((nof 1).bind fun x6 =>
((ncmp a8 x6).bind fun x7 =>
(cond (decide (x7 > 0))
(cond (!(x5.1 == []))
(chk (decide ((([32] : List UInt8).length + (x5.1 : List UInt8).length) ≤ maxStr))
((ntext a8).bind fun x8 =>
(chk (decide (((x8 : List UInt8).length + (([32] ++ x5.1) : List UInt8).length) ≤ maxStr))
(cond (decide (x7 > 0))
((hfill a2 a3 a4 a5 a0 [112, 101, 114] [] [] (some [(.str x3.1), (.str (x8 ++ ([32] ++ x5.1)))])).bind fun x9 =>
(cond (x9.2 != 0)
(some ([], x9.2))
(cond (x9.1 == [])
(chk (decide ((([123, 48, 125, 32] : List UInt8).length + (x9.1 : List UInt8).length) ≤ maxStr))
(some (([123, 48, 125, 32] ++ x9.1), 0)))
((loopK trR FU (0, [(.v (.str x9.1)), (.v (.int .u8 32))])).bind fun x14 => sel x14.1 [((asStr? (hV x14.2 0)).bind fun x15 =>
((loopK trL FU (0, [(.v (.str x15)), (.v (.int .u8 32))])).bind fun x20 => sel x20.1 [((asStr? (hV x20.2 0)).bind fun x21 =>
(chk (decide ((([123, 48, 125, 32] : List UInt8).length + (x21 : List UInt8).length) ≤ maxStr))
(some (([123, 48, 125, 32] ++ x21), 0))))]))]))))
(cond (decide (((slLen a7 : Nat) : Int) > 0))
((hfill a2 a3 a4 a5 a0 [112, 101, 114] [] [] (some [(.str x3.1), (.str (x8 ++ ([32] ++ x5.1)))])).bind fun x22 =>
(cond (x22.2 != 0)
(some ([], x22.2))
(cond (x22.1 == [])
(chk (decide ((([123, 48, 125, 32] : List UInt8).length + (x22.1 : List UInt8).length) ≤ maxStr))
(some (([123, 48, 125, 32] ++ x22.1), 0)))
((loopK trR FU (0, [(.v (.str x22.1)), (.v (.int .u8 32))])).bind fun x27 => sel x27.1 [((asStr? (hV x27.2 0)).bind fun x28 =>
((loopK trL FU (0, [(.v (.str x28)), (.v (.int .u8 32))])).bind fun x33 => sel x33.1 [((asStr? (hV x33.2 0)).bind fun x34 =>
(chk (decide ((([123, 48, 125, 32] : List UInt8).length + (x34 : List UInt8).length) ≤ maxStr))
(some (([123, 48, 125, 32] ++ x34), 0))))]))]))))
(chk (decide ((([123, 48, 125, 32] : List UInt8).length + (x3.1 : List UInt8).length) ≤ maxStr))
(some (([123, 48, 125, 32] ++ x3.1), 0))))))))
((ntext a8).bind fun x35 =>
(chk (decide (((x35 : List UInt8).length + (x5.1 : List UInt8).length) ≤ maxStr))
(cond (decide (x7 > 0))
((hfill a2 a3 a4 a5 a0 [112, 101, 114] [] [] (some [(.str x3.1), (.str (x35 ++ x5.1))])).bind fun x36 =>
(cond (x36.2 != 0)
(some ([], x36.2))
(cond (x36.1 == [])
(chk (decide ((([123, 48, 125, 32] : List UInt8).length + (x36.1 : List UInt8).length) ≤ maxStr))
(some (([123, 48, 125, 32] ++ x36.1), 0)))
((loopK trR FU (0, [(.v (.str x36.1)), (.v (.int .u8 32))])).bind fun x41 => sel x41.1 [((asStr? (hV x41.2 0)).bind fun x42 =>
((loopK trL FU (0, [(.v (.str x42)), (.v (.int .u8 32))])).bind fun x47 => sel x47.1 [((asStr? (hV x47.2 0)).bind fun x48 =>
(chk (decide ((([123, 48, 125, 32] : List UInt8).length + (x48 : List UInt8).length) ≤ maxStr))
(some (([123, 48, 125, 32] ++ x48), 0))))]))]))))
(cond (decide (((slLen a7 : Nat) : Int) > 0))
((hfill a2 a3 a4 a5 a0 [112, 101, 114] [] [] (some [(.str x3.1), (.str (x35 ++ x5.1))])).bind fun x49 =>
(cond (x49.2 != 0)
(some ([], x49.2))
(cond (x49.1 == [])
(chk (decide ((([123, 48, 125, 32] : List UInt8).length + (x49.1 : List UInt8).length) ≤ maxStr))
(some (([123, 48, 125, 32] ++ x49.1), 0)))
((loopK trR FU (0, [(.v (.str x49.1)), (.v (.int .u8 32))])).bind fun x54 => sel x54.1 [((asStr? (hV x54.2 0)).bind fun x55 =>
((loopK trL FU (0, [(.v (.str x55)), (.v (.int .u8 32))])).bind fun x60 => sel x60.1 [((asStr? (hV x60.2 0)).bind fun x61 =>
(chk (decide ((([123, 48, 125, 32] : List UInt8).length + (x61 : List UInt8).length) ≤ maxStr))
(some (([123, 48, 125, 32] ++ x61), 0))))]))]))))
(chk (decide ((([123, 48, 125, 32] : List UInt8).length + (x3.1 : List UInt8).length) ≤ maxStr))
(some (([123, 48, 125, 32] ++ x3.1), 0))))))))
(cond (decide (x7 > 0))
((hfill a2 a3 a4 a5 a0 [112, 101, 114] [] [] (some [(.str x3.1), (.str x5.1)])).bind fun x62 =>
(cond (x62.2 != 0)
(some ([], x62.2))
(cond (x62.1 == [])
(chk (decide ((([123, 48, 125, 32] : List UInt8).length + (x62.1 : List UInt8).length) ≤ maxStr))
(some (([123, 48, 125, 32] ++ x62.1), 0)))
((loopK trR FU (0, [(.v (.str x62.1)), (.v (.int .u8 32))])).bind fun x67 => sel x67.1 [((asStr? (hV x67.2 0)).bind fun x68 =>
((loopK trL FU (0, [(.v (.str x68)), (.v (.int .u8 32))])).bind fun x73 => sel x73.1 [((asStr? (hV x73.2 0)).bind fun x74 =>
(chk (decide ((([123, 48, 125, 32] : List UInt8).length + (x74 : List UInt8).length) ≤ maxStr))
(some (([123, 48, 125, 32] ++ x74), 0))))]))]))))
(cond (decide (((slLen a7 : Nat) : Int) > 0))
((hfill a2 a3 a4 a5 a0 [112, 101, 114] [] [] (some [(.str x3.1), (.str x5.1)])).bind fun x75 =>
(cond (x75.2 != 0)
(some ([], x75.2))
(cond (x75.1 == [])
(chk (decide ((([123, 48, 125, 32] : List UInt8).length + (x75.1 : List UInt8).length) ≤ maxStr))
(some (([123, 48, 125, 32] ++ x75.1), 0)))
((loopK trR FU (0, [(.v (.str x75.1)), (.v (.int .u8 32))])).bind fun x80 => sel x80.1 [((asStr? (hV x80.2 0)).bind fun x81 =>
((loopK trL FU (0, [(.v (.str x81)), (.v (.int .u8 32))])).bind fun x86 => sel x86.1 [((asStr? (hV x86.2 0)).bind fun x87 =>
(chk (decide ((([123, 48, 125, 32] : List UInt8).length + (x87 : List UInt8).length) ≤ maxStr))
(some (([123, 48, 125, 32] ++ x87), 0))))]))]))))
(chk (decide ((([123, 48, 125, 32] : List UInt8).length + (x3.1 : List UInt8).length) ≤ maxStr))
(some (([123, 48, 125, 32] ++ x3.1), 0))))))))))))))))

end Go.Ev

/- Words put together: Name, Show, Atom, Row, Part of one atom. Of no program. -/
namespace Go.Ev
set_option linter.unusedSimpArgs false
set_option linter.unusedVariables false
set_option maxRecDepth 100000

def sSign : Str := [123, 48, 125]
/-- A text without its number, exactly. -/
theorem cname_exact (s : Str) (hl : s.length ≤ 1000000) : cname s = some (trimB (Lib.replace s sSign [] 1)) := by
  have hrep : repl s [123, 48, 125] [] 1 = some (Lib.replace s sSign [] 1) := by
    unfold repl sSign
    rw [if_neg (by simp; omega)]
  have hlen : (Lib.replace s sSign [] 1).length ≤ s.length := replace_le (by simp) _ _
  unfold cname
  rw [hrep]
  simp only [Option.bind_some]
  generalize Lib.replace s sSign [] 1 = x at hlen
  cases hx : x == [] with
  | true =>
    have : x = [] := by simpa using hx
    subst this; rfl
  | false => simp only [cond_false]; exact trim_exact x (by omega)
theorem cname_len (s : Str) (hl : s.length ≤ 1000000) : ∃ r, cname s = some r ∧ r.length ≤ s.length :=
  ⟨_, cname_exact s hl, Nat.le_trans (trimB_len _) (replace_le (by simp [sSign]) _ _)⟩
theorem index_sign (t : Str) : Lib.index ([123, 48, 125] ++ t) sSign = (0 : Nat) := by
  show Lib.index (123 :: 48 :: 125 :: t) [123, 48, 125] = 0
  rw [Lib.index]
  simp [List.isPrefixOf]
theorem replace_sign (t : Str) : Lib.replace ([123, 48, 125] ++ t) sSign [] 1 = t := by
  have hi := index_sign t
  have hc := Lib.count_hit (sub := sSign) (by simp [sSign]) hi
  have hn : Lib.replaceNum ([123, 48, 125] ++ t) sSign 1 = 1 := by
    unfold Lib.replaceNum
    rw [if_neg (by rw [hc]; omega)]; rfl
  unfold Lib.replace
  rw [hn, Lib.replaceK_hit _ _ _ _ _ hi]
  have e : (sSign == ([] : Str)) = false := rfl
  rw [e]
  simp [Lib.replaceK, sSign]
theorem replace_miss (t : Str) (h : Lib.contains t sSign = false) : Lib.replace t sSign [] 1 = t := by
  have h1 := of_decide_eq_false h
  have h2 := Lib.index_ge t sSign
  have hi : Lib.index t sSign = -1 := by omega
  unfold Lib.replace Lib.replaceNum
  rw [Lib.count_miss hi]
  rfl
/-- A text without a number is called as it is with one ahead. -/
theorem cname_sign (t : Str) (hl : t.length ≤ 100000) (h : Lib.contains t sSign = false) : cname ([123, 48, 125, 32] ++ t) = cname t := by
  rw [cname_exact _ (by simp; omega), cname_exact _ (by omega), replace_miss t h]
  have : ([123, 48, 125, 32] ++ t : Str) = [123, 48, 125] ++ (32 :: t) := rfl
  rw [this, replace_sign, trimB_cons]

theorem ashow_ok (a0 a1 : Str) (a2 : Int) (h : a0.length + a1.length ≤ 100000000) : ∃ r, ashow a0 a1 a2 = some r ∧ r.length ≤ a0.length + a1.length + 100 := by
  have : Ok (ashow a0 a1 a2) fun r => r.length ≤ a0.length + a1.length + 100 := by
    unfold ashow
    refine Ok.chk (decide_eq_true (by unfold maxStr; omega)) ?_
    refine Ok.cond (fun _ => by simp) fun h1 => ?_
    refine Ok.cond (fun _ => by simp) fun h2 => ?_
    have h1 := of_decide_eq_false h1
    have h2 := of_decide_eq_false h2
    refine Ok.cond (fun _ => by simp) fun _ => ?_
    refine Ok.cond (fun _ => Ok.chk (decide_eq_true (by unfold maxStr; simp; omega)) (by simp)) fun _ => ?_
    refine Ok.cond (fun _ => Ok.chk (decide_eq_true (by unfold maxStr; simp; omega)) (by simp)) fun _ => ?_
    have hi : itoa a2 = some (Lib.itoa a2) := by unfold itoa; rw [if_pos (by omega)]
    have hl := Lib.itoa_length_le a2 (by omega) (by omega)
    rw [hi]
    simp only [Option.bind_some]
    generalize Lib.itoa a2 = x at hl
    refine Ok.chk (decide_eq_true (by unfold maxStr; simp; omega)) ?_
    refine Ok.chk (decide_eq_true (by unfold maxStr; simp; omega)) ?_
    refine Ok.chk (decide_eq_true (by unfold maxStr; simp; omega)) ?_
    simp; omega
  exact this
theorem nof_one : nof 1 = some (some (wordsV [1])) := by kernel_rfl
theorem ncmp_one : ncmp (some (wordsV [1])) (some (wordsV [1])) = some 0 := by kernel_rfl
theorem uone_eq : uone = some (some (wordsV [1])) := by unfold uone; rw [nof_one]; rfl
theorem sJoin_one (t : Str) (h : t.length ≤ 1000000000) : sJoin (some [.str t]) [45] = some t := by
  have h1 : strsV ((some [V.str t]).getD []) = some [t] := rfl
  have h2 : Lib.join [t] [45] = t := by simp [Lib.join]
  unfold sJoin
  rw [h1]
  simp only [Option.bind_some]
  rw [h2, if_pos ⟨by simp, h⟩]
theorem ushow_one (a0 a1 : Str) (a2 : Int) (t : Str) (h : ashow a0 a1 a2 = some t) (hl : t.length ≤ 1000000000) : ushow (some [.agg [.str a0, .str a1, .int .i64 a2]]) none (some (wordsV [1])) = some t := by
  obtain ⟨fu, hf⟩ : ∃ n, FU = n + 1 + 1 + 1 := ⟨4294967293, rfl⟩
  have hw1 : IntKind.wrap .i64 ((0 : Int) + 1) = 1 := rfl
  have s0 : ushow_L0 (0, [(.v (.sl (some [.agg [.str a0, .str a1, .int .i64 a2]]))), (.v (.int .i64 1)), (.v (.int .i64 0)), (.v (.sl (some [.agg [.str a0, .str a1, .int .i64 a2]]))), (.v (.sl none)), (.v (.sl (some (wordsV [1]))))]) =
      some (.inl (1, [(.v (.sl (some [.agg [.str a0, .str a1, .int .i64 a2]]))), (.v (.int .i64 1)), (.v (.int .i64 1)), (.v (.sl (some [.agg [.str a0, .str a1, .int .i64 a2]]))), (.v (.sl none)), (.v (.sl (some (wordsV [1])))), (.l [(.str t)])])) := by
    have hidx : idxL ((some [V.agg [.str a0, .str a1, .int .i64 a2]]).getD []) 0 = some (V.agg [.str a0, .str a1, .int .i64 a2]) := rfl
    have hd : decide ((0 : Int) < 1) = true := rfl
    simp only [ushow_L0, sel, hV, List.getD_cons_zero, List.getD_cons_succ, asSl_sl, asInt_int, Option.bind_some, hd, cond_true, hidx, asAgg_agg, List.length_cons, List.length_nil, if_true, asStr_str, h, hw1]
  have s1 : ushow_L0 (1, [(.v (.sl (some [.agg [.str a0, .str a1, .int .i64 a2]]))), (.v (.int .i64 1)), (.v (.int .i64 1)), (.v (.sl (some [.agg [.str a0, .str a1, .int .i64 a2]]))), (.v (.sl none)), (.v (.sl (some (wordsV [1])))), (.l [(.str t)])]) =
      some (.inr (1, [(.v (.sl (some [.agg [.str a0, .str a1, .int .i64 a2]]))), (.v (.sl none)), (.v (.sl (some (wordsV [1])))), (.l [(.str t)])])) := by
    have hd : decide ((1 : Int) < 1) = false := rfl
    simp only [ushow_L0, sel, hV, hL, List.getD_cons_zero, List.getD_cons_succ, asSl_sl, asInt_int, Option.bind_some, hd, cond_false]
  have l0 : loopK ushow_L0 FU (0, [(.v (.sl (some [.agg [.str a0, .str a1, .int .i64 a2]]))), (.v (.int .i64 ((slLen (some [V.agg [.str a0, .str a1, .int .i64 a2]]) : Nat) : Int))), (.v (.int .i64 0)), (.v (.sl (some [.agg [.str a0, .str a1, .int .i64 a2]]))), (.v (.sl none)), (.v (.sl (some (wordsV [1]))))]) =
      some (1, [(.v (.sl (some [.agg [.str a0, .str a1, .int .i64 a2]]))), (.v (.sl none)), (.v (.sl (some (wordsV [1])))), (.l [(.str t)])]) := by
    have e : ((slLen (some [V.agg [.str a0, .str a1, .int .i64 a2]]) : Nat) : Int) = 1 := rfl
    rw [e, hf]
    unfold loopK
    rw [s0]
    simp only [Option.bind_some]
    unfold loopK
    rw [s1]
    rfl
  have s2 : ushow_L1 (1, [(.v (.sl none)), (.v (.int .i64 0)), (.v (.int .i64 0)), (.l [(.str t)])]) = some (.inr (1, [(.l [(.str t)])])) := by
    have hd : decide ((0 : Int) < 0) = false := rfl
    simp only [ushow_L1, sel, hV, hL, List.getD_cons_zero, List.getD_cons_succ, asSl_sl, asInt_int, Option.bind_some, hd, cond_false]
  have l1 : loopK ushow_L1 FU (1, [(.v (.sl none)), (.v (.int .i64 ((slLen none : Nat) : Int))), (.v (.int .i64 0)), (.l [(.str t)])]) = some (1, [(.l [(.str t)])]) := by
    have e : ((slLen none : Nat) : Int) = 0 := rfl
    rw [e, hf]
    unfold loopK
    rw [s2]
    rfl
  have c0 : ((0 : Int) != 0) = false := rfl
  have c1 : decide (((slLen none : Nat) : Int) > 0) = false := rfl
  unfold ushow
  rw [l0]
  simp only [Option.bind_some, sel, hV, hL, List.getD_cons_zero, List.getD_cons_succ, asSl_sl, uone_eq, ncmp_one, c0, c1, cond_false, l1, sJoin_one t hl]

/-! ### Atom, Row, Part -/
section
variable {B : Nat} {w : WM} {p : PM} {m : GM}
theorem hword_ok (h : WOk B w p) (l wd c k n : Str) : ∃ t b, hword l wd c k (Wds w p) n = some (t, b) ∧ t.length ≤ B := by
  obtain ⟨t, b, h1, h2⟩ := pfind_ok h [119, 111, 114, 100] l wd n c k
  exact ⟨t, b, by unfold hword; rw [h1]; rfl, h2⟩
theorem hfill_ok (h : WOk B w p) (hB : B ≤ 1000) (l wd c k kind n cat : Str) (x : Str) (M : Nat) (hM : 1 ≤ M) (hx : x.length ≤ M) (hb : B * M ≤ 1000000000) :
    ∃ t e, hfill l wd c k (Wds w p) kind n cat (some [.str x]) = some (t, e) ∧ t.length ≤ B * M := by
  obtain ⟨t, b, h1, h2⟩ := pfind_ok h kind l wd n cat []
  unfold hfill
  rw [h1]
  simp only [Option.bind_some]
  cases b with
  | false => exact ⟨[], 9, rfl, by simp⟩
  | true =>
    have hm : t.length * M ≤ B * M := Nat.mul_le_mul_right M h2
    obtain ⟨r, h3, h4⟩ := pfill_ok t [x] M (by omega) hM (fun y hy => by simp at hy; subst hy; exact hx) (by simp) (by omega)
    simp only [List.map_cons, List.map_nil] at h3
    exact ⟨r, 0, by simp [h3], by omega⟩
theorem catom_ok (h : WOk B w p) (hB : B ≤ 120) (l wd c k a6 a7 : Str) (a8 : Int) (h8 : -9223372036854775808 ≤ a8 ∧ a8 ≤ 9223372036854775807) (h6 : a6.length + a7.length ≤ 100000000) :
    ∃ s e, catom (Wds w p) (some [.mp (some (encF key2 V.str m))]) l wd c k a6 a7 a8 = some (s, e) ∧ s.length ≤ 100000000 := by
  have : Ok (catom (Wds w p) (some [.mp (some (encF key2 V.str m))]) l wd c k a6 a7 a8) fun r => r.1.length ≤ 100000000 := by
    obtain ⟨t0, h0, _⟩ := ashow_ok a6 a7 a8 h6
    obtain ⟨t1, b1, h1, h1'⟩ := hword_ok h l wd c k t0
    obtain ⟨n1, hn1, hn1'⟩ := cname_len t1 (by omega)
    obtain ⟨t3, b3, h3, h3'⟩ := hword_ok h l wd c k a7
    obtain ⟨n3, hn3, hn3'⟩ := cname_len t3 (by omega)
    have hi : itoa a8 = some (Lib.itoa a8) := by unfold itoa; rw [if_pos h8]
    unfold catom
    rw [h0]
    simp only [Option.bind_some]
    rw [h1]
    simp only [Option.bind_some]
    refine Ok.cond (fun _ => ?_) fun _ => ?_
    · rw [hn1]; simp only [Option.bind_some, ok_some]; omega
    rw [h3]
    simp only [Option.bind_some]
    refine Ok.cond (fun _ => by simp) fun _ => ?_
    rw [hn3]
    simp only [Option.bind_some]
    refine Ok.cond (fun _ => ?_) fun _ => ?_
    · obtain ⟨t5, e5, h5, h5'⟩ := hfill_ok h (by omega) l wd c k [112, 114, 101, 102, 105, 120, 101, 100] a6 [] n3 120 (by omega) (by omega) (by omega)
      have : B * 120 ≤ 120 * 120 := Nat.mul_le_mul_right 120 hB
      rw [h5]
      simp only [Option.bind_some]
      refine Ok.cond (fun _ => by simp) fun _ => ?_
      refine Ok.cond (fun _ => ?_) fun _ => by simp only [ok_some]; omega
      rw [hi, gatom_exact]
      simp only [Option.bind_some]
      have hb2 : B * 14400 ≤ 120 * 14400 := Nat.mul_le_mul_right 14400 hB
      obtain ⟨t8, e8, h8, h8'⟩ := hfill_ok h (by omega) l wd c k [112, 111, 119, 101, 114] (Lib.itoa a8) (gget m l a7) t5 14400 (by omega) (by omega) (by omega)
      rw [h8]
      simp only [Option.bind_some]
      exact Ok.cond (fun _ => by simp) fun _ => by simp only [ok_some]; omega
    · refine Ok.cond (fun _ => ?_) fun _ => by simp only [ok_some]; omega
      rw [hi, gatom_exact]
      simp only [Option.bind_some]
      have hb2 : B * 120 ≤ 120 * 120 := Nat.mul_le_mul_right 120 hB
      obtain ⟨t8, e8, h8, h8'⟩ := hfill_ok h (by omega) l wd c k [112, 111, 119, 101, 114] (Lib.itoa a8) (gget m l a7) n3 120 (by omega) (by omega) (by omega)
      rw [h8]
      simp only [Option.bind_some]
      exact Ok.cond (fun _ => by simp) fun _ => by simp only [ok_some]; omega
  obtain ⟨⟨s, e⟩, h1, h2⟩ := this
  exact ⟨s, e, h1, h2⟩
end
/-- A row of one atom is as the atom. -/
theorem crow_one (a0 a1 : Option (List V)) (l wd c k a6 a7 s : Str) (a8 e : Int) (h : catom a0 a1 l wd c k a6 a7 a8 = some (s, e)) : ∃ t, crow a0 a1 l wd c k (some [.agg [.str a6, .str a7, .int .i64 a8]]) = some (t, e) ∧ (e = 0 → t = s) := by
  obtain ⟨fu, hf⟩ : ∃ n, FU = n + 1 + 1 + 1 := ⟨4294967293, rfl⟩
  have hw1 : IntKind.wrap .i64 ((0 : Int) + 1) = 1 := rfl
  have hidx : idxL ((some [V.agg [.str a6, .str a7, .int .i64 a8]]).getD []) 0 = some (V.agg [.str a6, .str a7, .int .i64 a8]) := rfl
  have hd : decide ((0 : Int) < 1) = true := rfl
  have hd0 : decide ((0 : Int) > 0) = false := rfl
  have hl : ((0 : Int) == IntKind.wrap .i64 (((slLen (some [V.agg [.str a6, .str a7, .int .i64 a8]]) : Nat) : Int) - 1)) = true := rfl
  have e1 : ((slLen (some [V.agg [.str a6, .str a7, .int .i64 a8]]) : Nat) : Int) = 1 := rfl
  by_cases he : e = 0
  · subst he
    have q1 : ((0 : Int) == 0) = true := rfl
    have q2 : ((0 : Int) != 0) = false := rfl
    have s0 : crow_L0 (0, [(.v (.pt a0)), (.v (.pt a1)), (.v (.sl (some [V.agg [.str a6, .str a7, .int .i64 a8]]))), (.v (.str [])), (.v (.sl (some [V.agg [.str a6, .str a7, .int .i64 a8]]))), (.v (.int .i64 1)), (.v (.int .i64 0)), (.v (.str l)), (.v (.str wd)), (.v (.str c)), (.v (.str k))]) =
        some (.inl (0, [(.v (.pt a0)), (.v (.pt a1)), (.v (.sl (some [V.agg [.str a6, .str a7, .int .i64 a8]]))), (.v (.str s)), (.v (.sl (some [V.agg [.str a6, .str a7, .int .i64 a8]]))), (.v (.int .i64 1)), (.v (.int .i64 1)), (.v (.str l)), (.v (.str wd)), (.v (.str c)), (.v (.str k))])) := by
      simp only [crow_L0, sel, hV, List.getD_cons_zero, List.getD_cons_succ, asSl_sl, asPt_pt, asInt_int, Option.bind_some, hd, hd0, cond_true, cond_false, hidx, asAgg_agg, List.length_cons, List.length_nil, if_true, asStr_str, hone, hl, h, q1, q2, hw1]
    have hd2 : decide ((1 : Int) < 1) = false := rfl
    have s1 : crow_L0 (0, [(.v (.pt a0)), (.v (.pt a1)), (.v (.sl (some [V.agg [.str a6, .str a7, .int .i64 a8]]))), (.v (.str s)), (.v (.sl (some [V.agg [.str a6, .str a7, .int .i64 a8]]))), (.v (.int .i64 1)), (.v (.int .i64 1)), (.v (.str l)), (.v (.str wd)), (.v (.str c)), (.v (.str k))]) = some (.inr (1, [(.v (.str s))])) := by
      simp only [crow_L0, sel, hV, List.getD_cons_zero, List.getD_cons_succ, asSl_sl, asPt_pt, asInt_int, asStr_str, Option.bind_some, hd2, cond_false]
    refine ⟨s, ?_, fun _ => rfl⟩
    unfold crow
    rw [e1, hf]
    unfold loopK
    rw [s0]
    simp only [Option.bind_some]
    unfold loopK
    rw [s1]
    rfl
  · have q1 : (e == 0) = false := beq_eq_false_iff_ne.2 he
    have q2 : (e != 0) = true := bne_iff_ne.2 he
    have s0 : crow_L0 (0, [(.v (.pt a0)), (.v (.pt a1)), (.v (.sl (some [V.agg [.str a6, .str a7, .int .i64 a8]]))), (.v (.str [])), (.v (.sl (some [V.agg [.str a6, .str a7, .int .i64 a8]]))), (.v (.int .i64 1)), (.v (.int .i64 0)), (.v (.str l)), (.v (.str wd)), (.v (.str c)), (.v (.str k))]) =
        some (.inr (0, [(.v (.str [])), (.v (.int .i64 e))])) := by
      simp only [crow_L0, sel, hV, List.getD_cons_zero, List.getD_cons_succ, asSl_sl, asPt_pt, asInt_int, Option.bind_some, hd, cond_true, cond_false, hidx, asAgg_agg, List.length_cons, List.length_nil, if_true, asStr_str, hone, hl, h, q1, q2]
    refine ⟨[], ?_, fun h => absurd h he⟩
    unfold crow
    rw [e1, hf]
    unfold loopK
    rw [s0]
    rfl
theorem crow_none (a0 a1 : Option (List V)) (l wd c k : Str) : crow a0 a1 l wd c k none = some ([], 0) := by
  obtain ⟨fu, hf⟩ : ∃ n, FU = n + 1 + 1 := ⟨4294967294, rfl⟩
  have hd : decide ((0 : Int) < 0) = false := rfl
  have s1 : crow_L0 (0, [(.v (.pt a0)), (.v (.pt a1)), (.v (.sl none)), (.v (.str [])), (.v (.sl none)), (.v (.int .i64 0)), (.v (.int .i64 0)), (.v (.str l)), (.v (.str wd)), (.v (.str c)), (.v (.str k))]) = some (.inr (1, [(.v (.str []))])) := by
    simp only [crow_L0, sel, hV, List.getD_cons_zero, List.getD_cons_succ, asSl_sl, asPt_pt, asInt_int, asStr_str, Option.bind_some, hd, cond_false]
  unfold crow
  have e1 : ((slLen none : Nat) : Int) = 0 := rfl
  rw [e1, hf]
  unfold loopK
  rw [s1]
  rfl
end Go.Ev
