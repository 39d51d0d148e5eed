/- The staged evaluator over the program, in normal form: printed by a program (sym.lean), each held against it by the kernel. -/
import Derived.Test.YtmlhdhndjgdoaaaDoorCuGsC
namespace Go.Proofs.YtmlhdhndjgdoaaaDoor.gs
open Go Go.Ev
set_option maxRecDepth 1000000
set_option linter.unusedVariables false
set_option maxHeartbeats 4000000

/-! cubit/rows.words -/
noncomputable def rwords_L0 (v : Vs) : Option (Vs ⊕ Vs) := sel v.1 [((asSl? (hV v.2 0)).bind fun x1 =>
((asInt? .i64 (hV v.2 1)).bind fun x2 =>
((asInt? .i64 (hV v.2 2)).bind fun x3 =>
(cond (decide (x3 < x2))
((idxL (x1.getD []) x3).bind fun x4 =>
((asStr? x4).bind fun x5 =>
(cond (decide ((((x5 : List UInt8).length : Nat) : Int) ≥ 1))
((cutL none (some 1) x5).bind fun x6 =>
(cond (x6 == [35])
(some (.inr (0, [])))
(cond (!(x5 == []))
(some (.inl (1, [(.v (.sl x1)), (.v (.int .i64 x2)), (.v (.int .i64 (IntKind.wrap .i64 (x3 + 1)))), (.l [(.str x5)])])))
(some (.inl (0, [(.v (.sl x1)), (.v (.int .i64 x2)), (.v (.int .i64 (IntKind.wrap .i64 (x3 + 1))))]))))))
(cond (!(x5 == []))
(some (.inl (1, [(.v (.sl x1)), (.v (.int .i64 x2)), (.v (.int .i64 (IntKind.wrap .i64 (x3 + 1)))), (.l [(.str x5)])])))
(some (.inl (0, [(.v (.sl x1)), (.v (.int .i64 x2)), (.v (.int .i64 (IntKind.wrap .i64 (x3 + 1))))])))))))
(some (.inr (0, []))))))),
((asSl? (hV v.2 0)).bind fun x7 =>
((asInt? .i64 (hV v.2 1)).bind fun x8 =>
((asInt? .i64 (hV v.2 2)).bind fun x9 =>
(cond (decide (x9 < x8))
((idxL (x7.getD []) x9).bind fun x10 =>
((asStr? x10).bind fun x11 =>
(cond (decide ((((x11 : List UInt8).length : Nat) : Int) ≥ 1))
((cutL none (some 1) x11).bind fun x12 =>
(cond (x12 == [35])
(some (.inr (1, [(.l (hL v.2 3))])))
(cond (!(x11 == []))
(chk ((fits ((hL v.2 3).length + 1)) && true)
(some (.inl (1, [(.v (.sl x7)), (.v (.int .i64 x8)), (.v (.int .i64 (IntKind.wrap .i64 (x9 + 1)))), (.l ((hL v.2 3) ++ [(.str x11)] : List V))]))))
(some (.inl (1, [(.v (.sl x7)), (.v (.int .i64 x8)), (.v (.int .i64 (IntKind.wrap .i64 (x9 + 1)))), (.l (hL v.2 3))]))))))
(cond (!(x11 == []))
(chk ((fits ((hL v.2 3).length + 1)) && true)
(some (.inl (1, [(.v (.sl x7)), (.v (.int .i64 x8)), (.v (.int .i64 (IntKind.wrap .i64 (x9 + 1)))), (.l ((hL v.2 3) ++ [(.str x11)] : List V))]))))
(some (.inl (1, [(.v (.sl x7)), (.v (.int .i64 x8)), (.v (.int .i64 (IntKind.wrap .i64 (x9 + 1)))), (.l (hL v.2 3))])))))))
(some (.inr (1, [(.l (hL v.2 3))])))))))]
noncomputable def rwords (a0 : List UInt8) : Option (Option (List V)) :=
((spl a0 [32]).bind fun x0 =>
((loopK rwords_L0 FU (0, [(.v (.sl x0)), (.v (.int .i64 ((slLen x0 : Nat) : Int))), (.v (.int .i64 0))])).bind fun x13 => sel x13.1 [(some (none)),
(some ((some (hL x13.2 0))))]))
noncomputable def rwords_e : List SV → Objs → Option ((β : Type) → (SV → Objs → Option β) → Option β)
  | [.a (.v (.str a0))], os => some fun _ K => (rwords a0).bind fun p => K (.a (.v (.sl p))) os
  | _, _ => none
noncomputable def rwords_k (sv : SV) (os : Objs) : Option (Option (List V)) := match sv, os with
  | .a (.v v), [] => dTy (.t1 (.k .sl)) v fun v => (match v with | (.sl r0) => some (r0) | _ => none)
  | _, _ => none
noncomputable def rwords_n : FuncId → Nat → Ann := fun f n => match f, n with
  | 36, 0 => ⟨[(11, (.t1 (.k .str)))], [⟨[⟨[.u, .u, .u, .a (.nil), .u, .u, .u, .a (.h (.t1 (.k .sl))), .a (.h (.t1 (.k (.int .i64)))), .a (.h (.t1 (.k (.int .i64)))), .u, .u, .u, .u, .u, .u, .u, .u, .u, .u, .u, .u, .u], []⟩, ⟨[.u, .u, .u, .a (.own 0), .u, .u, .u, .a (.h (.t1 (.k .sl))), .a (.h (.t1 (.k (.int .i64)))), .a (.h (.t1 (.k (.int .i64)))), .u, .u, .u, .u, .u, .u, .u, .u, .u, .u, .u, .u, .u], [.ext 9 1]⟩], [((.ex 0), ⟨[.u, .u, .u, .a (.nil), .u, .u, .u, .u, .u, .u, .u, .u, .u, .u, .u, .u, .u, .u, .u, .u, .u, .u, .u], []⟩), ((.ex 0), ⟨[.u, .u, .u, .a (.own 0), .u, .u, .u, .u, .u, .u, .u, .u, .u, .u, .u, .u, .u, .u, .u, .u, .u, .u, .u], [.ext 9 1]⟩)]⟩], false⟩
  | _, _ => ⟨[], [], false⟩
theorem rwords_q : (fun (a0 : List UInt8) => stN tab0 code rwords_n FU 24 36 [.a (.v (.str a0))] [] rwords_k) = (fun (a0 : List UInt8) => rwords a0) := by kernel_rfl
noncomputable def tab0_1 : ToldK := addTo tab0 36 rwords_e
theorem rwords_h : EntryOK tab0 code rwords_n FU 24 36 rwords_e := by
  intro args os t h
  unfold rwords_e at h
  split at h
  · rename_i os0 a0
    cases h
    exact ⟨_, _, fun p => (.sl p), rwords_k, ids_all rfl, fun _ _ => rfl, (congrFun rwords_q _), fun sv os p hp => by
      unfold rwords_k at hp
      split at hp
      · have hp := dTy_ok hp
        split at hp
        · cases hp; exact ⟨rfl, rfl⟩
        · cases hp
      · cases hp⟩
  · cases h
/-! cubit/rows.odd -/
noncomputable def rodd (a0 : Int) : Option (Bool) :=
(cond (decide (a0 < 32))
(some (true))
(some ((decide (a0 > 126)))))
noncomputable def rodd_e : List SV → Objs → Option ((β : Type) → (SV → Objs → Option β) → Option β)
  | [.a (.v (.int .i32 a0))], os => some fun _ K => (rodd a0).bind fun p => K (.a (.v (.bool p))) os
  | _, _ => none
noncomputable def rodd_k (sv : SV) (os : Objs) : Option (Bool) := match sv, os with
  | .a (.v v), [] => dTy (.t1 (.k .bool)) v fun v => (match v with | (.bool r0) => some (r0) | _ => none)
  | _, _ => none
noncomputable def rodd_n : FuncId → Nat → Ann := fun f n => match f, n with
  | _, _ => ⟨[], [], false⟩
theorem rodd_q : (fun (a0 : Int) => stN tab0_1 code rodd_n FU 24 38 [.a (.v (.int .i32 a0))] [] rodd_k) = (fun (a0 : Int) => rodd a0) := by kernel_rfl
noncomputable def tab0_2 : ToldK := addTo tab0_1 38 rodd_e
theorem rodd_h : EntryOK tab0_1 code rodd_n FU 24 38 rodd_e := by
  intro args os t h
  unfold rodd_e at h
  split at h
  · rename_i os0 a0
    cases h
    exact ⟨_, _, fun p => (.bool p), rodd_k, ids_all rfl, fun _ _ => rfl, (congrFun rodd_q _), fun sv os p hp => by
      unfold rodd_k at hp
      split at hp
      · have hp := dTy_ok hp
        split at hp
        · cases hp; exact ⟨rfl, rfl⟩
        · cases hp
      · cases hp⟩
  · cases h
/-! strings.indexFunc -/
noncomputable def sif_L0 (v : Vs) : Option (Vs ⊕ Vs) := sel v.1 [((asBool? (hV v.2 0)).bind fun x0 =>
(cond (decide ((hN v.2 2) < ((hS v.2 1) : List UInt8).length))
((rodd (Utf8.decode ⟨((hS v.2 1) : List UInt8).toArray⟩ (hN v.2 2)).1).bind fun x1 =>
(cond (x1 == x0)
(some (.inr (0, [(.v (.int .i64 (((hN v.2 2) : Nat) : Int)))])))
(some (.inl (0, [(.v (.bool x0)), (.s (hS v.2 1)), (.n ((hN v.2 2) + (Utf8.decode ⟨((hS v.2 1) : List UInt8).toArray⟩ (hN v.2 2)).2))])))))
(some (.inr (1, [])))))]
noncomputable def sif (a0 : List UInt8) (a1 : Bool) : Option (Int) :=
((loopK sif_L0 FU (0, [(.v (.bool a1)), (.s a0), (.n 0)])).bind fun x2 => sel x2.1 [((asInt? .i64 (hV x2.2 0)).bind fun x3 =>
(some (x3))),
(some ((-1)))])
noncomputable def sif_e : List SV → Objs → Option ((β : Type) → (SV → Objs → Option β) → Option β)
  | [.a (.v (.str a0)), .clo 38 [] [], .a (.v (.bool a1))], os => some fun _ K => (sif a0 a1).bind fun p => K (.a (.v (.int .i64 p))) os
  | _, _ => none
noncomputable def sif_k (sv : SV) (os : Objs) : Option (Int) := match sv, os with
  | .a (.v v), [] => dTy (.t1 (.k (.int .i64))) v fun v => (match v with | (.int .i64 r0) => some (r0) | _ => none)
  | _, _ => none
noncomputable def sif_n : FuncId → Nat → Ann := fun f n => match f, n with
  | 60, 0 => ⟨[], [⟨[⟨[.u, .clo 38 [] [], .a (.h (.t1 (.k .bool))), .u, .u, .u, .u, .u, .u, .u, .a (.itr 0), .u, .u, .u, .u, .u, .u, .u, .u, .u, .u], [.iter]⟩], [(.ret, ⟨[.u, .u, .u, .u, .u, .u, .a (.h (.t1 (.k (.int .i64)))), .u, .u, .u, .u, .u, .u, .u, .u, .u, .u, .u, .u, .u, .u], []⟩), ((.ex 0), ⟨[.u, .u, .u, .u, .u, .u, .u, .u, .u, .u, .u, .u, .u, .u, .u, .u, .u, .u, .u, .u, .u], []⟩)]⟩], false⟩
  | _, _ => ⟨[], [], false⟩
theorem sif_q : (fun (a0 : List UInt8) (a1 : Bool) => stN tab0_2 code sif_n FU 24 60 [.a (.v (.str a0)), .clo 38 [] [], .a (.v (.bool a1))] [] sif_k) = (fun (a0 : List UInt8) (a1 : Bool) => sif a0 a1) := by kernel_rfl
noncomputable def tab0_3 : ToldK := addTo tab0_2 60 sif_e
theorem sif_h : EntryOK tab0_2 code sif_n FU 24 60 sif_e := by
  intro args os t h
  unfold sif_e at h
  split at h
  · rename_i os0 a0 a1
    cases h
    exact ⟨_, _, fun p => (.int .i64 p), sif_k, ids_all rfl, fun _ _ => rfl, (congrFun (congrFun sif_q _) _), fun sv os p hp => by
      unfold sif_k at hp
      split at hp
      · have hp := dTy_ok hp
        split at hp
        · cases hp; exact ⟨rfl, rfl⟩
        · cases hp
      · cases hp⟩
  · cases h
/-! strings.IndexFunc -/
noncomputable def sIf (a0 : List UInt8) : Option (Int) :=
((sif a0 true).bind fun x0 =>
(some (x0)))
noncomputable def sIf_e : List SV → Objs → Option ((β : Type) → (SV → Objs → Option β) → Option β)
  | [.a (.v (.str a0)), .clo 38 [] []], os => some fun _ K => (sIf a0).bind fun p => K (.a (.v (.int .i64 p))) os
  | _, _ => none
noncomputable def sIf_k (sv : SV) (os : Objs) : Option (Int) := match sv, os with
  | .a (.v v), [] => dTy (.t1 (.k (.int .i64))) v fun v => (match v with | (.int .i64 r0) => some (r0) | _ => none)
  | _, _ => none
noncomputable def sIf_n : FuncId → Nat → Ann := fun f n => match f, n with
  | _, _ => ⟨[], [], false⟩
theorem sIf_q : (fun (a0 : List UInt8) => stN tab0_3 code sIf_n FU 24 49 [.a (.v (.str a0)), .clo 38 [] []] [] sIf_k) = (fun (a0 : List UInt8) => sIf a0) := by kernel_rfl
noncomputable def tab0_4 : ToldK := addTo tab0_3 49 sIf_e
theorem sIf_h : EntryOK tab0_3 code sIf_n FU 24 49 sIf_e := by
  intro args os t h
  unfold sIf_e at h
  split at h
  · rename_i os0 a0
    cases h
    exact ⟨_, _, fun p => (.int .i64 p), sIf_k, ids_all rfl, fun _ _ => rfl, (congrFun sIf_q _), fun sv os p hp => by
      unfold sIf_k at hp
      split at hp
      · have hp := dTy_ok hp
        split at hp
        · cases hp; exact ⟨rfl, rfl⟩
        · cases hp
      · cases hp⟩
  · cases h
/-! strings.ContainsFunc -/
noncomputable def scf (a0 : List UInt8) : Option (Bool) :=
((sIf a0).bind fun x0 =>
(some ((decide (x0 ≥ 0)))))
noncomputable def scf_e : List SV → Objs → Option ((β : Type) → (SV → Objs → Option β) → Option β)
  | [.a (.v (.str a0)), .clo 38 [] []], os => some fun _ K => (scf a0).bind fun p => K (.a (.v (.bool p))) os
  | _, _ => none
noncomputable def scf_k (sv : SV) (os : Objs) : Option (Bool) := match sv, os with
  | .a (.v v), [] => dTy (.t1 (.k .bool)) v fun v => (match v with | (.bool r0) => some (r0) | _ => none)
  | _, _ => none
noncomputable def scf_n : FuncId → Nat → Ann := fun f n => match f, n with
  | _, _ => ⟨[], [], false⟩
theorem scf_q : (fun (a0 : List UInt8) => stN tab0_4 code scf_n FU 24 37 [.a (.v (.str a0)), .clo 38 [] []] [] scf_k) = (fun (a0 : List UInt8) => scf a0) := by kernel_rfl
noncomputable def tab0_5 : ToldK := addTo tab0_4 37 scf_e
theorem scf_h : EntryOK tab0_4 code scf_n FU 24 37 scf_e := by
  intro args os t h
  unfold scf_e at h
  split at h
  · rename_i os0 a0
    cases h
    exact ⟨_, _, fun p => (.bool p), scf_k, ids_all rfl, fun _ _ => rfl, (congrFun scf_q _), fun sv os p hp => by
      unfold scf_k at hp
      split at hp
      · have hp := dTy_ok hp
        split at hp
        · cases hp; exact ⟨rfl, rfl⟩
        · cases hp
      · cases hp⟩
  · cases h
/-! cubit/rows.Parse -/
noncomputable def rparse_L0 (v : Vs) : Option (Vs ⊕ Vs) := sel v.1 [((asSl? (hV v.2 0)).bind fun x1 =>
((asInt? .i64 (hV v.2 1)).bind fun x2 =>
((asInt? .i64 (hV v.2 2)).bind fun x3 =>
(cond (decide (x3 < x2))
((idxL (x1.getD []) x3).bind fun x4 =>
((asStr? x4).bind fun x5 =>
((rwords x5).bind fun x6 =>
((scf x5).bind fun x7 =>
(cond x7
(cond x7
(some (.inr (0, [(.v (.int .i64 (IntKind.wrap .i64 (x3 + 1)))), (.v (.int .i64 2))])))
(cond (((slLen x6 : Nat) : Int) == 0)
(some (.inl (0, [(.v (.sl x1)), (.v (.int .i64 x2)), (.v (.int .i64 (IntKind.wrap .i64 (x3 + 1))))])))
(some (.inl (1, [(.v (.sl x1)), (.v (.int .i64 x2)), (.v (.int .i64 (IntKind.wrap .i64 (x3 + 1)))), (.l [(.agg [(.int .i64 (IntKind.wrap .i64 (x3 + 1))), (.sl x6)])])])))))
(cond (decide (((slLen x6 : Nat) : Int) > 24))
(some (.inr (0, [(.v (.int .i64 (IntKind.wrap .i64 (x3 + 1)))), (.v (.int .i64 2))])))
(cond (((slLen x6 : Nat) : Int) == 0)
(some (.inl (0, [(.v (.sl x1)), (.v (.int .i64 x2)), (.v (.int .i64 (IntKind.wrap .i64 (x3 + 1))))])))
(some (.inl (1, [(.v (.sl x1)), (.v (.int .i64 x2)), (.v (.int .i64 (IntKind.wrap .i64 (x3 + 1)))), (.l [(.agg [(.int .i64 (IntKind.wrap .i64 (x3 + 1))), (.sl x6)])])]))))))))))
(some (.inr (1, []))))))),
((asSl? (hV v.2 0)).bind fun x8 =>
((asInt? .i64 (hV v.2 1)).bind fun x9 =>
((asInt? .i64 (hV v.2 2)).bind fun x10 =>
(cond (decide (x10 < x9))
((idxL (x8.getD []) x10).bind fun x11 =>
((asStr? x11).bind fun x12 =>
((rwords x12).bind fun x13 =>
((scf x12).bind fun x14 =>
(cond x14
(cond x14
(some (.inr (0, [(.v (.int .i64 (IntKind.wrap .i64 (x10 + 1)))), (.v (.int .i64 2))])))
(cond (((slLen x13 : Nat) : Int) == 0)
(some (.inl (1, [(.v (.sl x8)), (.v (.int .i64 x9)), (.v (.int .i64 (IntKind.wrap .i64 (x10 + 1)))), (.l (hL v.2 3))])))
(cond ((((hL v.2 3).length : Nat) : Int) == 2000)
(some (.inr (0, [(.v (.int .i64 (IntKind.wrap .i64 (x10 + 1)))), (.v (.int .i64 11))])))
(chk ((fits ((hL v.2 3).length + 1)) && true)
(some (.inl (1, [(.v (.sl x8)), (.v (.int .i64 x9)), (.v (.int .i64 (IntKind.wrap .i64 (x10 + 1)))), (.l ((hL v.2 3) ++ [(.agg [(.int .i64 (IntKind.wrap .i64 (x10 + 1))), (.sl x13)])] : List V))])))))))
(cond (decide (((slLen x13 : Nat) : Int) > 24))
(some (.inr (0, [(.v (.int .i64 (IntKind.wrap .i64 (x10 + 1)))), (.v (.int .i64 2))])))
(cond (((slLen x13 : Nat) : Int) == 0)
(some (.inl (1, [(.v (.sl x8)), (.v (.int .i64 x9)), (.v (.int .i64 (IntKind.wrap .i64 (x10 + 1)))), (.l (hL v.2 3))])))
(cond ((((hL v.2 3).length : Nat) : Int) == 2000)
(some (.inr (0, [(.v (.int .i64 (IntKind.wrap .i64 (x10 + 1)))), (.v (.int .i64 11))])))
(chk ((fits ((hL v.2 3).length + 1)) && true)
(some (.inl (1, [(.v (.sl x8)), (.v (.int .i64 x9)), (.v (.int .i64 (IntKind.wrap .i64 (x10 + 1)))), (.l ((hL v.2 3) ++ [(.agg [(.int .i64 (IntKind.wrap .i64 (x10 + 1))), (.sl x13)])] : List V))]))))))))))))
(some (.inr (2, [(.l (hL v.2 3))])))))))]
noncomputable def rparse (a0 : List UInt8) : Option (Option (List V) × Int × Int) :=
(cond (decide ((((a0 : List UInt8).length : Nat) : Int) > 65536))
(some (none, 0, 11))
((spl a0 [10]).bind fun x0 =>
((loopK rparse_L0 FU (0, [(.v (.sl x0)), (.v (.int .i64 ((slLen x0 : Nat) : Int))), (.v (.int .i64 0))])).bind fun x15 => sel x15.1 [((asInt? .i64 (hV x15.2 0)).bind fun x16 =>
((asInt? .i64 (hV x15.2 1)).bind fun x17 =>
(some (none, x16, x17)))),
(some (none, 0, 0)),
(some ((some (hL x15.2 0)), 0, 0))])))
noncomputable def rparse_e : List SV → Objs → Option ((β : Type) → (SV → Objs → Option β) → Option β)
  | [.a (.v (.str a0))], os => some fun _ K => (rparse a0).bind fun p => K (.a (.v (.tup [(.sl p.1), (.int .i64 p.2.1), (.int .i64 p.2.2)]))) os
  | _, _ => none
noncomputable def rparse_k (sv : SV) (os : Objs) : Option (Option (List V) × Int × Int) := match sv, os with
  | .a (.v v), [] => dTy (.tup [(.k .sl), (.k (.int .i64)), (.k (.int .i64))]) v fun v => (match v with | (.tup [(.sl r0), (.int .i64 r1), (.int .i64 r2)]) => some (r0, r1, r2) | _ => none)
  | _, _ => none
noncomputable def rparse_n : FuncId → Nat → Ann := fun f n => match f, n with
  | 22, 0 => ⟨[(18, (.t1 (.k .str)))], [⟨[⟨[.u, .u, .u, .u, .u, .a (.nil), .u, .u, .u, .u, .u, .u, .u, .a (.h (.t1 (.k .sl))), .a (.h (.t1 (.k (.int .i64)))), .a (.h (.t1 (.k (.int .i64)))), .u, .u, .u, .u, .u, .u, .u, .u, .u, .u, .u, .u, .u, .u, .u, .u, .u, .u, .u, .u, .u, .u, .u, .u, .u, .u, .u, .u, .u, .u, .u, .u, .u], []⟩, ⟨[.u, .u, .u, .u, .u, .a (.own 0), .u, .u, .u, .u, .u, .u, .u, .a (.h (.t1 (.k .sl))), .a (.h (.t1 (.k (.int .i64)))), .a (.h (.t1 (.k (.int .i64)))), .u, .u, .u, .u, .u, .u, .u, .u, .u, .u, .u, .u, .u, .u, .u, .u, .u, .u, .u, .u, .u, .u, .u, .u, .u, .u, .u, .u, .u, .u, .u, .u, .u], [.ext 58 2]⟩], [(.ret, ⟨[.u, .u, .a (.nil), .a (.h (.t1 (.k (.int .i64)))), .a (.h (.t1 (.k (.int .i64)))), .u, .u, .u, .u, .u, .u, .u, .u, .u, .u, .u, .u, .u, .u, .u, .u, .u, .u, .u, .u, .u, .u, .u, .u, .u, .u, .u, .u, .u, .u, .u, .u, .u, .u, .u, .u, .u, .u, .u, .u, .u, .u, .u, .u], []⟩), ((.ex 0), ⟨[.u, .u, .u, .u, .u, .a (.nil), .u, .u, .u, .u, .u, .u, .u, .u, .u, .u, .u, .u, .u, .u, .u, .u, .u, .u, .u, .u, .u, .u, .u, .u, .u, .u, .u, .u, .u, .u, .u, .u, .u, .u, .u, .u, .u, .u, .u, .u, .u, .u, .u], []⟩), ((.ex 0), ⟨[.u, .u, .u, .u, .u, .a (.own 0), .u, .u, .u, .u, .u, .u, .u, .u, .u, .u, .u, .u, .u, .u, .u, .u, .u, .u, .u, .u, .u, .u, .u, .u, .u, .u, .u, .u, .u, .u, .u, .u, .u, .u, .u, .u, .u, .u, .u, .u, .u, .u, .u], [.ext 58 2]⟩)]⟩], false⟩
  | _, _ => ⟨[], [], false⟩
theorem rparse_q : (fun (a0 : List UInt8) => stN tab0_5 code rparse_n FU 24 22 [.a (.v (.str a0))] [] rparse_k) = (fun (a0 : List UInt8) => rparse a0) := by kernel_rfl
noncomputable def tab0_6 : ToldK := addTo tab0_5 22 rparse_e
theorem rparse_h : EntryOK tab0_5 code rparse_n FU 24 22 rparse_e := by
  intro args os t h
  unfold rparse_e at h
  split at h
  · rename_i os0 a0
    cases h
    exact ⟨_, _, fun p => (.tup [(.sl p.1), (.int .i64 p.2.1), (.int .i64 p.2.2)]), rparse_k, ids_all rfl, fun _ _ => rfl, (congrFun rparse_q _), fun sv os p hp => by
      unfold rparse_k at hp
      split at hp
      · have hp := dTy_ok hp
        split at hp
        · cases hp; exact ⟨rfl, rfl⟩
        · cases hp
      · cases hp⟩
  · cases h
/-! cubit/gender.cutLeft -/
noncomputable abbrev cutLeft := Go.Ev.cutLeft
noncomputable def cutLeft_e : List SV → Objs → Option ((β : Type) → (SV → Objs → Option β) → Option β)
  | [.a (.v (.str a0)), .a (.v (.str a1))], os => some fun _ K => (cutLeft a0 a1).bind fun p => K (.a (.v (.str p))) os
  | _, _ => none
noncomputable def cutLeft_k (sv : SV) (os : Objs) : Option (List UInt8) := match sv, os with
  | .a (.v v), [] => dTy (.t1 (.k .str)) v fun v => (match v with | (.str r0) => some (r0) | _ => none)
  | _, _ => none
noncomputable def cutLeft_n : FuncId → Nat → Ann := fun f n => match f, n with
  | 40, 0 => ⟨[], [⟨[⟨[.a (.h (.t1 (.k .str))), .a (.h (.t1 (.k .str))), .u, .u, .u, .u, .u, .u, .u, .u, .u, .a (.itr 0), .u, .u, .u, .u, .u, .u, .u, .u, .u, .u, .u, .u, .u, .u, .u, .u, .u, .u, .u, .u], [.iter]⟩], [(.ret, ⟨[.u, .u, .u, .u, .a (.h (.t1 (.k .str))), .u, .u, .u, .u, .u, .u, .u, .u, .u, .u, .u, .u, .u, .u, .u, .u, .u, .u, .u, .u, .u, .u, .u, .u, .u, .u, .u], []⟩), ((.ex 0), ⟨[.u, .u, .u, .u, .u, .u, .u, .u, .u, .u, .u, .u, .u, .u, .u, .u, .u, .u, .u, .u, .u, .u, .u, .u, .u, .u, .u, .u, .u, .u, .u, .u], []⟩)]⟩, ⟨[⟨[.a (.h (.t1 (.k .str))), .a (.h (.t1 (.k .str))), .u, .u, .u, .a (.h (.t1 (.k (.int .i64)))), .a (.h (.t1 (.k (.int .i32)))), .a (.h (.t1 (.k .bool))), .u, .u, .u, .a (.itr 0), .u, .u, .u, .u, .u, .a (.itr 1), .u, .u, .u, .u, .u, .u, .u, .u, .u, .u, .u, .u, .u, .u], [.iter, .iter]⟩], [((.ex 2), ⟨[.a (.h (.t1 (.k .str))), .a (.h (.t1 (.k .str))), .u, .u, .u, .a (.h (.t1 (.k (.int .i64)))), .u, .a (.h (.t1 (.k .bool))), .u, .u, .u, .a (.itr 0), .u, .u, .u, .u, .u, .u, .u, .u, .u, .u, .u, .u, .u, .u, .u, .u, .u, .u, .u, .u], [.iter]⟩)]⟩], false⟩
  | _, _ => ⟨[], [], false⟩
theorem cutLeft_q : (fun (a0 : List UInt8) (a1 : List UInt8) => stN tab0_6 code cutLeft_n FU 24 40 [.a (.v (.str a0)), .a (.v (.str a1))] [] cutLeft_k) = (fun (a0 : List UInt8) (a1 : List UInt8) => cutLeft a0 a1) := by kernel_rfl
noncomputable def tab0_7 : ToldK := addTo tab0_6 40 cutLeft_e
theorem cutLeft_h : EntryOK tab0_6 code cutLeft_n FU 24 40 cutLeft_e := by
  intro args os t h
  unfold cutLeft_e at h
  split at h
  · rename_i os0 a0 a1
    cases h
    exact ⟨_, _, fun p => (.str p), cutLeft_k, ids_all rfl, fun _ _ => rfl, (congrFun (congrFun cutLeft_q _) _), fun sv os p hp => by
      unfold cutLeft_k at hp
      split at hp
      · have hp := dTy_ok hp
        split at hp
        · cases hp; exact ⟨rfl, rfl⟩
        · cases hp
      · cases hp⟩
  · cases h
/-! cubit/gender.cutRight -/
noncomputable abbrev cutRight := Go.Ev.cutRight
noncomputable def cutRight_e : List SV → Objs → Option ((β : Type) → (SV → Objs → Option β) → Option β)
  | [.a (.v (.str a0)), .a (.v (.str a1))], os => some fun _ K => (cutRight a0 a1).bind fun p => K (.a (.v (.str p))) os
  | _, _ => none
noncomputable def cutRight_k (sv : SV) (os : Objs) : Option (List UInt8) := match sv, os with
  | .a (.v v), [] => dTy (.t1 (.k .str)) v fun v => (match v with | (.str r0) => some (r0) | _ => none)
  | _, _ => none
noncomputable def cutRight_n : FuncId → Nat → Ann := fun f n => match f, n with
  | 39, 0 => ⟨[], [⟨[⟨[.a (.h (.t1 (.k .str))), .a (.h (.t1 (.k .str))), .u, .u, .u, .u, .u, .u, .u, .u, .u, .u, .u, .u, .u, .u, .u, .u, .u, .u, .u, .u, .u, .u, .u, .u, .u, .u, .u, .u, .u, .u, .u, .u, .u, .u, .u, .u, .u], []⟩], [(.ret, ⟨[.u, .u, .u, .u, .a (.h (.t1 (.k .str))), .u, .u, .u, .u, .u, .u, .u, .u, .u, .u, .u, .u, .u, .u, .u, .u, .u, .u, .u, .u, .u, .u, .u, .u, .u, .u, .u, .u, .u, .u, .u, .u, .u, .u], []⟩), ((.ex 0), ⟨[.a (.h (.t1 (.k .str))), .u, .u, .u, .u, .u, .u, .u, .u, .u, .u, .u, .u, .u, .u, .u, .u, .u, .u, .u, .u, .u, .u, .u, .u, .u, .u, .u, .u, .u, .u, .u, .u, .u, .u, .u, .u, .u, .u], []⟩)]⟩, ⟨[⟨[.a (.h (.t1 (.k .str))), .a (.h (.t1 (.k .str))), .u, .u, .u, .a (.h (.t1 (.k (.int .i32)))), .a (.h (.t1 (.k (.int .i64)))), .a (.h (.t1 (.k .bool))), .u, .u, .u, .u, .u, .u, .u, .u, .u, .u, .u, .a (.itr 0), .u, .u, .u, .u, .u, .u, .u, .u, .u, .u, .u, .u, .u, .u, .u, .u, .u, .u, .u], [.iter]⟩], [((.ex 2), ⟨[.a (.h (.t1 (.k .str))), .a (.h (.t1 (.k .str))), .u, .u, .u, .u, .a (.h (.t1 (.k (.int .i64)))), .a (.h (.t1 (.k .bool))), .u, .u, .u, .u, .u, .u, .u, .u, .u, .u, .u, .u, .u, .u, .u, .u, .u, .u, .u, .u, .u, .u, .u, .u, .u, .u, .u, .u, .u, .u, .u], []⟩)]⟩], false⟩
  | _, _ => ⟨[], [], false⟩
theorem cutRight_q : (fun (a0 : List UInt8) (a1 : List UInt8) => stN tab0_7 code cutRight_n FU 24 39 [.a (.v (.str a0)), .a (.v (.str a1))] [] cutRight_k) = (fun (a0 : List UInt8) (a1 : List UInt8) => cutRight a0 a1) := by kernel_rfl
noncomputable def tab0_8 : ToldK := addTo tab0_7 39 cutRight_e
theorem cutRight_h : EntryOK tab0_7 code cutRight_n FU 24 39 cutRight_e := by
  intro args os t h
  unfold cutRight_e at h
  split at h
  · rename_i os0 a0 a1
    cases h
    exact ⟨_, _, fun p => (.str p), cutRight_k, ids_all rfl, fun _ _ => rfl, (congrFun (congrFun cutRight_q _) _), fun sv os p hp => by
      unfold cutRight_k at hp
      split at hp
      · have hp := dTy_ok hp
        split at hp
        · cases hp; exact ⟨rfl, rfl⟩
        · cases hp
      · cases hp⟩
  · cases h
/-! cubit/gender.of -/
noncomputable abbrev gof := Go.Ev.gof
noncomputable def gof_e : List SV → Objs → Option ((β : Type) → (SV → Objs → Option β) → Option β)
  | [.a (.v (.str a0)), .a (.v (.str a1))], os => some fun _ K => (gof a0 a1).bind fun p => K (.a (.v (.bool p))) os
  | _, _ => none
noncomputable def gof_k (sv : SV) (os : Objs) : Option (Bool) := match sv, os with
  | .a (.v v), [] => dTy (.t1 (.k .bool)) v fun v => (match v with | (.bool r0) => some (r0) | _ => none)
  | _, _ => none
noncomputable def gof_n : FuncId → Nat → Ann := fun f n => match f, n with
  | _, _ => ⟨[], [], false⟩
theorem gof_q : (fun (a0 : List UInt8) (a1 : List UInt8) => stN tab0_8 code gof_n FU 24 24 [.a (.v (.str a0)), .a (.v (.str a1))] [] gof_k) = (fun (a0 : List UInt8) (a1 : List UInt8) => gof a0 a1) := by kernel_rfl
noncomputable def tab0_9 : ToldK := addTo tab0_8 24 gof_e
theorem gof_h : EntryOK tab0_8 code gof_n FU 24 24 gof_e := by
  intro args os t h
  unfold gof_e at h
  split at h
  · rename_i os0 a0 a1
    cases h
    exact ⟨_, _, fun p => (.bool p), gof_k, ids_all rfl, fun _ _ => rfl, (congrFun (congrFun gof_q _) _), fun sv os p hp => by
      unfold gof_k at hp
      split at hp
      · have hp := dTy_ok hp
        split at hp
        · cases hp; exact ⟨rfl, rfl⟩
        · cases hp
      · cases hp⟩
  · cases h
/-! cubit/rows.Of -/
noncomputable abbrev rowsOf := Go.Ev.rowsOf
noncomputable def rowsOf_e : List SV → Objs → Option ((β : Type) → (SV → Objs → Option β) → Option β)
  | [.a (.v (.sl a0)), .a (.v (.str a1))], os => some fun _ K => (rowsOf a0 a1).bind fun p => K (.a (.v (.sl p))) os
  | _, _ => none
noncomputable def rowsOf_k (sv : SV) (os : Objs) : Option (Option (List V)) := match sv, os with
  | .a (.v v), [] => dTy (.t1 (.k .sl)) v fun v => (match v with | (.sl r0) => some (r0) | _ => none)
  | _, _ => none
noncomputable def rowsOf_n : FuncId → Nat → Ann := fun f n => match f, n with
  | 16, 0 => ⟨[(12, (.t1 (.agg [(.int .i64), .sl]))), (21, (.t1 (.k .str)))], [⟨[⟨[.u, .a (.h (.t1 (.k .str))), .u, .u, .u, .a (.nil), .u, .u, .a (.h (.t1 (.k .sl))), .a (.h (.t1 (.k (.int .i64)))), .a (.h (.t1 (.k (.int .i64)))), .u, .u, .u, .u, .u, .u, .u, .u, .u, .u, .u, .u, .u, .u, .u, .u, .u, .u, .u, .u, .u, .u, .u, .u, .u, .u], []⟩, ⟨[.u, .a (.h (.t1 (.k .str))), .u, .u, .u, .a (.own 0), .u, .u, .a (.h (.t1 (.k .sl))), .a (.h (.t1 (.k (.int .i64)))), .a (.h (.t1 (.k (.int .i64)))), .u, .u, .u, .u, .u, .u, .u, .u, .u, .u, .u, .u, .u, .u, .u, .u, .u, .u, .u, .u, .u, .u, .u, .u, .u, .u], [.ext 58 2]⟩], [((.ex 0), ⟨[.u, .u, .u, .u, .u, .a (.nil), .u, .u, .u, .u, .u, .u, .u, .u, .u, .u, .u, .u, .u, .u, .u, .u, .u, .u, .u, .u, .u, .u, .u, .u, .u, .u, .u, .u, .u, .u, .u], []⟩), ((.ex 0), ⟨[.u, .u, .u, .u, .u, .a (.own 0), .u, .u, .u, .u, .u, .u, .u, .u, .u, .u, .u, .u, .u, .u, .u, .u, .u, .u, .u, .u, .u, .u, .u, .u, .u, .u, .u, .u, .u, .u, .u], [.ext 58 2]⟩)]⟩], false⟩
  | _, _ => ⟨[], [], false⟩
theorem rowsOf_q : (fun (a0 : Option (List V)) (a1 : List UInt8) => stN tab0_9 code rowsOf_n FU 24 16 [.a (.v (.sl a0)), .a (.v (.str a1))] [] rowsOf_k) = (fun (a0 : Option (List V)) (a1 : List UInt8) => rowsOf a0 a1) := by kernel_rfl
noncomputable def tab0_10 : ToldK := addTo tab0_9 16 rowsOf_e
theorem rowsOf_h : EntryOK tab0_9 code rowsOf_n FU 24 16 rowsOf_e := by
  intro args os t h
  unfold rowsOf_e at h
  split at h
  · rename_i os0 a0 a1
    cases h
    exact ⟨_, _, fun p => (.sl p), rowsOf_k, ids_all rfl, fun _ _ => rfl, (congrFun (congrFun rowsOf_q _) _), fun sv os p hp => by
      unfold rowsOf_k at hp
      split at hp
      · have hp := dTy_ok hp
        split at hp
        · cases hp; exact ⟨rfl, rfl⟩
        · cases hp
      · cases hp⟩
  · cases h
/-! cubit/gender.Load -/
noncomputable abbrev gload := Go.Ev.gload
noncomputable def gload_e : List SV → Objs → Option ((β : Type) → (SV → Objs → Option β) → Option β)
  | [.a (.v (.sl a0))], os => some fun _ K => (gload a0).bind fun p => K (.a (.v (.tup [(.pt p.1), (.int .i64 p.2.1), (.int .i64 p.2.2)]))) os
  | _, _ => none
noncomputable def gload_k (sv : SV) (os : Objs) : Option (Option (List V) × Int × Int) := match sv, os with
  | .a (.v v), [] => dTy (.tup [(.k .pt), (.k (.int .i64)), (.k (.int .i64))]) v fun v => (match v with | (.tup [(.pt r0), (.int .i64 r1), (.int .i64 r2)]) => some (r0, r1, r2) | _ => none)
  | _, _ => none
noncomputable def gload_n : FuncId → Nat → Ann := fun f n => match f, n with
  | 6, 0 => ⟨[(17, (.t1 (.agg [(.int .i64), .sl])))], [⟨[⟨[.u, .u, .u, .u, .u, .a (.loc 0 0), .u, .u, .u, .u, .u, .u, .u, .a (.h (.t1 (.k .sl))), .a (.h (.t1 (.k (.int .i64)))), .a (.h (.t1 (.k (.int .i64)))), .u, .u, .u, .u, .u, .u, .u, .u, .u, .u, .u, .u, .u, .u, .u], [.box 61 [.mapr 1], .map]⟩], [(.ret, ⟨[.u, .u, .a (.np), .a (.h (.t1 (.k (.int .i64)))), .a (.h (.t1 (.k (.int .i64)))), .u, .u, .u, .u, .u, .u, .u, .u, .u, .u, .u, .u, .u, .u, .u, .u, .u, .u, .u, .u, .u, .u, .u, .u, .u, .u], []⟩), ((.ex 0), ⟨[.u, .u, .u, .u, .u, .a (.loc 0 0), .u, .u, .u, .u, .u, .u, .u, .u, .u, .u, .u, .u, .u, .u, .u, .u, .u, .u, .u, .u, .u, .u, .u, .u, .u], [.box 61 [.mapr 1], .map]⟩)]⟩], true⟩
  | 17, 3 => ⟨[(11, (.t1 (.k .str))), (18, (.t1 (.k .str))), (25, (.t1 (.k .str))), (32, (.t1 (.k .str))), (39, (.t1 (.k .str))), (45, (.t1 (.k .str))), (48, (.t1 (.k .str))), (56, (.t1 (.k .str))), (64, (.t1 (.k .str)))], [], false⟩
  | _, _ => ⟨[], [], false⟩
theorem gload_q : (fun (a0 : Option (List V)) => stN tab0_10 code gload_n FU 24 6 [.a (.v (.sl a0))] [] gload_k) = (fun (a0 : Option (List V)) => gload a0) := by kernel_rfl
noncomputable def tab0_11 : ToldK := addTo tab0_10 6 gload_e
theorem gload_h : EntryOK tab0_10 code gload_n FU 24 6 gload_e := by
  intro args os t h
  unfold gload_e at h
  split at h
  · rename_i os0 a0
    cases h
    exact ⟨_, _, fun p => (.tup [(.pt p.1), (.int .i64 p.2.1), (.int .i64 p.2.2)]), gload_k, ids_all rfl, fun _ _ => rfl, (congrFun gload_q _), fun sv os p hp => by
      unfold gload_k at hp
      split at hp
      · have hp := dTy_ok hp
        split at hp
        · cases hp; exact ⟨rfl, rfl⟩
        · cases hp
      · cases hp⟩
  · cases h
/-! (*cubit/gender.Genders).Atom -/
noncomputable abbrev gatom := Go.Ev.gatom
noncomputable def gatom_e : List SV → Objs → Option ((β : Type) → (SV → Objs → Option β) → Option β)
  | [.a (.v (.pt a0)), .a (.v (.str a1)), .a (.v (.agg [(.str a2), (.str a3), (.int .i64 a4)]))], os => some fun _ K => (gatom a0 a1 a2 a3 a4).bind fun p => K (.a (.v (.str p))) os
  | _, _ => none
noncomputable def gatom_k (sv : SV) (os : Objs) : Option (List UInt8) := match sv, os with
  | .a (.v v), [] => dTy (.t1 (.k .str)) v fun v => (match v with | (.str r0) => some (r0) | _ => none)
  | _, _ => none
noncomputable def gatom_n : FuncId → Nat → Ann := fun f n => match f, n with
  | 9, 0 => ⟨[(8, (.ptr [.mp])), (9, (.ptr [.mp])), (15, (.t1 (.k .str)))], [], false⟩
  | _, _ => ⟨[], [], false⟩
theorem gatom_q : (fun (a0 : Option (List V)) (a1 : List UInt8) (a2 : List UInt8) (a3 : List UInt8) (a4 : Int) => stN tab0_11 code gatom_n FU 24 9 [.a (.v (.pt a0)), .a (.v (.str a1)), .a (.v (.agg [(.str a2), (.str a3), (.int .i64 a4)]))] [] gatom_k) = (fun (a0 : Option (List V)) (a1 : List UInt8) (a2 : List UInt8) (a3 : List UInt8) (a4 : Int) => gatom a0 a1 a2 a3 a4) := by kernel_rfl
noncomputable def tab0_12 : ToldK := addTo tab0_11 9 gatom_e
theorem gatom_h : EntryOK tab0_11 code gatom_n FU 24 9 gatom_e := by
  intro args os t h
  unfold gatom_e at h
  split at h
  · rename_i os0 a0 a1 a2 a3 a4
    cases h
    exact ⟨_, _, fun p => (.str p), gatom_k, ids_all rfl, fun _ _ => rfl, (congrFun (congrFun (congrFun (congrFun (congrFun gatom_q _) _) _) _) _), fun sv os p hp => by
      unfold gatom_k at hp
      split at hp
      · have hp := dTy_ok hp
        split at hp
        · cases hp; exact ⟨rfl, rfl⟩
        · cases hp
      · cases hp⟩
  · cases h
/-! (*cubit/gender.Genders).Part -/
noncomputable abbrev gpart := Go.Ev.gpart
noncomputable def gpart_e : List SV → Objs → Option ((β : Type) → (SV → Objs → Option β) → Option β)
  | [.a (.v (.pt a0)), .a (.v (.str a1)), .a (.v (.agg [(.sl a2), (.sl a3), (.sl a4)]))], os => some fun _ K => (gpart a0 a1 a2 a3 a4).bind fun p => K (.a (.v (.str p))) os
  | _, _ => none
noncomputable def gpart_k (sv : SV) (os : Objs) : Option (List UInt8) := match sv, os with
  | .a (.v v), [] => dTy (.t1 (.k .str)) v fun v => (match v with | (.str r0) => some (r0) | _ => none)
  | _, _ => none
noncomputable def gpart_n : FuncId → Nat → Ann := fun f n => match f, n with
  | 11, 0 => ⟨[(20, (.t1 (.agg [.str, .str, (.int .i64)]))), (32, (.t1 (.agg [.str, .str, (.int .i64)])))], [], false⟩
  | _, _ => ⟨[], [], false⟩
theorem gpart_q : (fun (a0 : Option (List V)) (a1 : List UInt8) (a2 : Option (List V)) (a3 : Option (List V)) (a4 : Option (List V)) => stN tab0_12 code gpart_n FU 24 11 [.a (.v (.pt a0)), .a (.v (.str a1)), .a (.v (.agg [(.sl a2), (.sl a3), (.sl a4)]))] [] gpart_k) = (fun (a0 : Option (List V)) (a1 : List UInt8) (a2 : Option (List V)) (a3 : Option (List V)) (a4 : Option (List V)) => gpart a0 a1 a2 a3 a4) := by kernel_rfl
noncomputable def tab0_13 : ToldK := addTo tab0_12 11 gpart_e
theorem gpart_h : EntryOK tab0_12 code gpart_n FU 24 11 gpart_e := by
  intro args os t h
  unfold gpart_e at h
  split at h
  · rename_i os0 a0 a1 a2 a3 a4
    cases h
    exact ⟨_, _, fun p => (.str p), gpart_k, ids_all rfl, fun _ _ => rfl, (congrFun (congrFun (congrFun (congrFun (congrFun gpart_q _) _) _) _) _), fun sv os p hp => by
      unfold gpart_k at hp
      split at hp
      · have hp := dTy_ok hp
        split at hp
        · cases hp; exact ⟨rfl, rfl⟩
        · cases hp
      · cases hp⟩
  · cases h
/-! (*cubit/gender.Genders).Whole -/
noncomputable abbrev gwhole := Go.Ev.gwhole
noncomputable def gwhole_e : List SV → Objs → Option ((β : Type) → (SV → Objs → Option β) → Option β)
  | [.a (.v (.pt a0)), .a (.v (.str a1)), .a (.v (.agg [(.sl a2)]))], os => some fun _ K => (gwhole a0 a1 a2).bind fun p => K (.a (.v (.str p))) os
  | _, _ => none
noncomputable def gwhole_k (sv : SV) (os : Objs) : Option (List UInt8) := match sv, os with
  | .a (.v v), [] => dTy (.t1 (.k .str)) v fun v => (match v with | (.str r0) => some (r0) | _ => none)
  | _, _ => none
noncomputable def gwhole_n : FuncId → Nat → Ann := fun f n => match f, n with
  | 14, 0 => ⟨[(15, (.t1 (.agg [.sl, .sl, .sl])))], [], false⟩
  | _, _ => ⟨[], [], false⟩
theorem gwhole_q : (fun (a0 : Option (List V)) (a1 : List UInt8) (a2 : Option (List V)) => stN tab0_13 code gwhole_n FU 24 14 [.a (.v (.pt a0)), .a (.v (.str a1)), .a (.v (.agg [(.sl a2)]))] [] gwhole_k) = (fun (a0 : Option (List V)) (a1 : List UInt8) (a2 : Option (List V)) => gwhole a0 a1 a2) := by kernel_rfl
noncomputable def tab0_14 : ToldK := addTo tab0_13 14 gwhole_e
theorem gwhole_h : EntryOK tab0_13 code gwhole_n FU 24 14 gwhole_e := by
  intro args os t h
  unfold gwhole_e at h
  split at h
  · rename_i os0 a0 a1 a2
    cases h
    exact ⟨_, _, fun p => (.str p), gwhole_k, ids_all rfl, fun _ _ => rfl, (congrFun (congrFun (congrFun gwhole_q _) _) _), fun sv os p hp => by
      unfold gwhole_k at hp
      split at hp
      · have hp := dTy_ok hp
        split at hp
        · cases hp; exact ⟨rfl, rfl⟩
        · cases hp
      · cases hp⟩
  · cases h
/-! cubit/nat.trim -/
noncomputable abbrev ntrim := Go.Ev.ntrim
noncomputable def ntrim_e : List SV → Objs → Option ((β : Type) → (SV → Objs → Option β) → Option β)
  | [.a (.v (.sl a0))], os => some fun _ K => (ntrim a0).bind fun p => K (.a (.v (.agg [(.sl p)]))) os
  | _, _ => none
noncomputable def ntrim_k (sv : SV) (os : Objs) : Option (Option (List V)) := match sv, os with
  | .a (.v v), [] => dTy (.t1 (.agg [.sl])) v fun v => (match v with | (.agg [(.sl r0)]) => some (r0) | _ => none)
  | _, _ => none
noncomputable def ntrim_n : FuncId → Nat → Ann := fun f n => match f, n with
  | 29, 0 => ⟨[(11, (.t1 (.k (.int .u32))))], [⟨[⟨[.a (.h (.t1 (.k .sl))), .u, .a (.loc 0 0), .u, .u, .u, .u, .u, .u, .u, .u, .u, .u, .u, .u, .u, .u, .u, .u, .u, .u, .u], [.box 26 [.nil]]⟩], [((.ex 0), ⟨[.a (.h (.t1 (.k .sl))), .u, .a (.loc 0 0), .u, .u, .u, .u, .u, .u, .u, .u, .u, .u, .u, .u, .u, .u, .u, .u, .u, .u, .u], [.box 26 [.nil]]⟩)]⟩], false⟩
  | _, _ => ⟨[], [], false⟩
theorem ntrim_q : (fun (a0 : Option (List V)) => stN tab0_14 code ntrim_n FU 24 29 [.a (.v (.sl a0))] [] ntrim_k) = (fun (a0 : Option (List V)) => ntrim a0) := by kernel_rfl
noncomputable def tab0_15 : ToldK := addTo tab0_14 29 ntrim_e
theorem ntrim_h : EntryOK tab0_14 code ntrim_n FU 24 29 ntrim_e := by
  intro args os t h
  unfold ntrim_e at h
  split at h
  · rename_i os0 a0
    cases h
    exact ⟨_, _, fun p => (.agg [(.sl p)]), ntrim_k, ids_all rfl, fun _ _ => rfl, (congrFun ntrim_q _), fun sv os p hp => by
      unfold ntrim_k at hp
      split at hp
      · have hp := dTy_ok hp
        split at hp
        · cases hp; exact ⟨rfl, rfl⟩
        · cases hp
      · cases hp⟩
  · cases h
/-! cubit/nat.small -/
noncomputable abbrev nsmall := Go.Ev.nsmall
noncomputable def nsmall_e : List SV → Objs → Option ((β : Type) → (SV → Objs → Option β) → Option β)
  | [.a (.v (.sl a0)), .a (.v (.int .u32 a1))], os => some fun _ K => (nsmall a0 a1).bind fun p => K (.a (.v (.tup [(.sl p.1), (.int .u32 p.2)]))) os
  | _, _ => none
noncomputable def nsmall_k (sv : SV) (os : Objs) : Option (Option (List V) × Int) := match sv, os with
  | .a (.v v), [] => dTy (.tup [(.k .sl), (.k (.int .u32))]) v fun v => (match v with | (.tup [(.sl r0), (.int .u32 r1)]) => some (r0, r1) | _ => none)
  | _, _ => none
noncomputable def nsmall_n : FuncId → Nat → Ann := fun f n => match f, n with
  | 30, 0 => ⟨[(23, (.t1 (.k (.int .u32)))), (34, (.t1 (.k (.int .u32))))], [⟨[⟨[.a (.h (.t1 (.k .sl))), .a (.h (.t1 (.k (.int .u32)))), .u, .u, .u, .u, .a (.own 0), .a (.h (.t1 (.k (.int .u64)))), .a (.h (.t1 (.k (.int .i64)))), .u, .u, .u, .u, .u, .u, .u, .u, .u, .u, .u, .u, .u, .u, .u, .u, .u, .u, .u, .u, .u, .u, .u, .u, .u, .u, .u, .u, .u, .u, .u, .u, .u], [.arr 81 1]⟩], [((.ex 0), ⟨[.u, .u, .u, .u, .u, .u, .a (.own 0), .a (.h (.t1 (.k (.int .u64)))), .u, .u, .u, .u, .u, .u, .u, .u, .u, .u, .u, .u, .u, .u, .u, .u, .u, .u, .u, .u, .u, .u, .u, .u, .u, .u, .u, .u, .u, .u, .u, .u, .u, .u], [.arr 81 1]⟩)]⟩], false⟩
  | _, _ => ⟨[], [], false⟩
theorem nsmall_q : (fun (a0 : Option (List V)) (a1 : Int) => stN tab0_15 code nsmall_n FU 24 30 [.a (.v (.sl a0)), .a (.v (.int .u32 a1))] [] nsmall_k) = (fun (a0 : Option (List V)) (a1 : Int) => nsmall a0 a1) := by kernel_rfl
noncomputable def tab0_16 : ToldK := addTo tab0_15 30 nsmall_e
theorem nsmall_h : EntryOK tab0_15 code nsmall_n FU 24 30 nsmall_e := by
  intro args os t h
  unfold nsmall_e at h
  split at h
  · rename_i os0 a0 a1
    cases h
    exact ⟨_, _, fun p => (.tup [(.sl p.1), (.int .u32 p.2)]), nsmall_k, ids_all rfl, fun _ _ => rfl, (congrFun (congrFun nsmall_q _) _), fun sv os p hp => by
      unfold nsmall_k at hp
      split at hp
      · have hp := dTy_ok hp
        split at hp
        · cases hp; exact ⟨rfl, rfl⟩
        · cases hp
      · cases hp⟩
  · cases h
/-! cubit/nat.Text -/
noncomputable abbrev ntext := Go.Ev.ntext
noncomputable def ntext_e : List SV → Objs → Option ((β : Type) → (SV → Objs → Option β) → Option β)
  | [.a (.v (.agg [(.sl a0)]))], os => some fun _ K => (ntext a0).bind fun p => K (.a (.v (.str p))) os
  | _, _ => none
noncomputable def ntext_k (sv : SV) (os : Objs) : Option (List UInt8) := match sv, os with
  | .a (.v v), [] => dTy (.t1 (.k .str)) v fun v => (match v with | (.str r0) => some (r0) | _ => none)
  | _, _ => none
noncomputable def ntext_n : FuncId → Nat → Ann := fun f n => match f, n with
  | 33, 0 => ⟨[(20, (.t1 (.k .str))), (24, (.t1 (.k .str))), (26, (.t1 (.k .str)))], [⟨[⟨[.a (.nil), .u, .a (.h (.t1 (.k (.int .i64)))), .a (.h (.t1 (.k (.int .i64)))), .u, .u, .u, .u, .u, .u, .u, .u, .u, .u, .u, .u, .u, .u, .u, .u, .u, .u, .u, .u, .u, .u, .u, .u], []⟩], [((.ex 0), ⟨[.u, .u, .u, .u, .u, .u, .u, .u, .u, .u, .u, .u, .u, .u, .u, .u, .u, .u, .u, .u, .u, .u, .u, .u, .u, .u, .u, .u], []⟩)]⟩], false⟩
  | 33, 1 => ⟨[(21, (.t1 (.k .str))), (25, (.t1 (.k .str))), (26, (.t1 (.k .str))), (27, (.t1 (.k .str)))], [⟨[⟨[.a (.own 0), .u, .a (.h (.t1 (.k (.int .i64)))), .a (.h (.t1 (.k (.int .i64)))), .u, .u, .u, .u, .u, .u, .u, .u, .u, .u, .u, .u, .u, .u, .u, .u, .u, .u, .u, .u, .u, .u, .u, .u], [.arr 9 1]⟩], [((.ex 0), ⟨[.u, .u, .u, .u, .u, .u, .u, .u, .u, .u, .u, .u, .u, .u, .u, .u, .u, .u, .u, .u, .u, .u, .u, .u, .u, .u, .u, .u], [.arr 9 1]⟩)]⟩], false⟩
  | 21, 0 => ⟨[], [⟨[⟨[.u, .u, .u, .a (.h (.t1 (.k .sl))), .a (.nil), .u, .u, .u, .u, .u, .u, .u, .u, .u, .u, .u, .u, .u, .u, .u, .u, .u, .u, .u, .u, .u, .u, .u, .u, .u, .u, .u, .u, .u, .u, .u, .u, .u, .u, .u, .u, .u, .u, .u, .u, .u], []⟩, ⟨[.u, .u, .u, .a (.h (.t1 (.k .sl))), .a (.own 0), .u, .u, .u, .u, .u, .u, .u, .u, .u, .u, .u, .u, .u, .u, .u, .u, .u, .u, .u, .u, .u, .u, .u, .u, .u, .u, .u, .u, .u, .u, .u, .u, .u, .u, .u, .u, .u, .u, .u, .u, .u], [.arr 9 1]⟩], [((.ex 0), ⟨[.u, .u, .u, .u, .a (.nil), .u, .u, .u, .u, .u, .u, .u, .u, .u, .u, .u, .u, .u, .u, .u, .u, .u, .u, .u, .u, .u, .u, .u, .u, .u, .u, .u, .u, .u, .u, .u, .u, .u, .u, .u, .u, .u, .u, .u, .u, .u], []⟩), ((.ex 0), ⟨[.u, .u, .u, .u, .a (.own 0), .u, .u, .u, .u, .u, .u, .u, .u, .u, .u, .u, .u, .u, .u, .u, .u, .u, .u, .u, .u, .u, .u, .u, .u, .u, .u, .u, .u, .u, .u, .u, .u, .u, .u, .u, .u, .u, .u, .u, .u, .u], [.arr 9 1]⟩)]⟩], false⟩
  | _, _ => ⟨[], [], false⟩
theorem ntext_q : (fun (a0 : Option (List V)) => stN tab0_16 code ntext_n FU 24 21 [.a (.v (.agg [(.sl a0)]))] [] ntext_k) = (fun (a0 : Option (List V)) => ntext a0) := by kernel_rfl
noncomputable def tab0_17 : ToldK := addTo tab0_16 21 ntext_e
theorem ntext_h : EntryOK tab0_16 code ntext_n FU 24 21 ntext_e := by
  intro args os t h
  unfold ntext_e at h
  split at h
  · rename_i os0 a0
    cases h
    exact ⟨_, _, fun p => (.str p), ntext_k, ids_all rfl, fun _ _ => rfl, (congrFun ntext_q _), fun sv os p hp => by
      unfold ntext_k at hp
      split at hp
      · have hp := dTy_ok hp
        split at hp
        · cases hp; exact ⟨rfl, rfl⟩
        · cases hp
      · cases hp⟩
  · cases h
/-! cubit/cubitref14.all -/
noncomputable def all14_L0 (v : Vs) : Option (Vs ⊕ Vs) := sel v.1 [((asStr? (hV v.2 0)).bind fun x0 =>
((asInt? .u8 (hV v.2 1)).bind fun x1 =>
((asInt? .u8 (hV v.2 2)).bind fun x2 =>
((asInt? .i64 (hV v.2 3)).bind fun x3 =>
(cond (decide (x3 < (((x0 : List UInt8).length : Nat) : Int)))
((idxL x0 x3).bind fun x4 =>
(cond (decide (((x4.toNat : Nat) : Int) < x1))
(some (.inr (0, [(.v (.bool false))])))
((idxL x0 x3).bind fun x5 =>
(cond (decide (((x5.toNat : Nat) : Int) > x2))
(some (.inr (0, [(.v (.bool false))])))
(some (.inl (0, [(.v (.str x0)), (.v (.int .u8 x1)), (.v (.int .u8 x2)), (.v (.int .i64 (IntKind.wrap .i64 (x3 + 1))))])))))))
(some (.inr (1, []))))))))]
noncomputable def all14 (a0 : List UInt8) (a1 : Int) (a2 : Int) : Option (Bool) :=
((loopK all14_L0 FU (0, [(.v (.str a0)), (.v (.int .u8 a1)), (.v (.int .u8 a2)), (.v (.int .i64 0))])).bind fun x6 => sel x6.1 [((asBool? (hV x6.2 0)).bind fun x7 =>
(some (x7))),
(some (true))])
noncomputable def all14_e : List SV → Objs → Option ((β : Type) → (SV → Objs → Option β) → Option β)
  | [.a (.v (.str a0)), .a (.v (.int .u8 a1)), .a (.v (.int .u8 a2))], os => some fun _ K => (all14 a0 a1 a2).bind fun p => K (.a (.v (.bool p))) os
  | _, _ => none
noncomputable def all14_k (sv : SV) (os : Objs) : Option (Bool) := match sv, os with
  | .a (.v v), [] => dTy (.t1 (.k .bool)) v fun v => (match v with | (.bool r0) => some (r0) | _ => none)
  | _, _ => none
noncomputable def all14_n : FuncId → Nat → Ann := fun f n => match f, n with
  | 25, 0 => ⟨[], [⟨[⟨[.a (.h (.t1 (.k .str))), .a (.h (.t1 (.k (.int .u8)))), .a (.h (.t1 (.k (.int .u8)))), .u, .u, .u, .u, .a (.h (.t1 (.k (.int .i64)))), .u, .u, .u, .u, .u, .u, .u, .u, .u, .u, .u, .u, .u, .u, .u, .u, .u, .u], []⟩], [(.ret, ⟨[.u, .u, .u, .u, .u, .u, .a (.h (.t1 (.k .bool))), .u, .u, .u, .u, .u, .u, .u, .u, .u, .u, .u, .u, .u, .u, .u, .u, .u, .u, .u], []⟩), ((.ex 0), ⟨[.u, .u, .u, .u, .u, .u, .u, .u, .u, .u, .u, .u, .u, .u, .u, .u, .u, .u, .u, .u, .u, .u, .u, .u, .u, .u], []⟩)]⟩], false⟩
  | _, _ => ⟨[], [], false⟩
theorem all14_q : (fun (a0 : List UInt8) (a1 : Int) (a2 : Int) => stN tab0_17 code all14_n FU 24 25 [.a (.v (.str a0)), .a (.v (.int .u8 a1)), .a (.v (.int .u8 a2))] [] all14_k) = (fun (a0 : List UInt8) (a1 : Int) (a2 : Int) => all14 a0 a1 a2) := by kernel_rfl
noncomputable def tab0_18 : ToldK := addTo tab0_17 25 all14_e
theorem all14_h : EntryOK tab0_17 code all14_n FU 24 25 all14_e := by
  intro args os t h
  unfold all14_e at h
  split at h
  · rename_i os0 a0 a1 a2
    cases h
    exact ⟨_, _, fun p => (.bool p), all14_k, ids_all rfl, fun _ _ => rfl, (congrFun (congrFun (congrFun all14_q _) _) _), fun sv os p hp => by
      unfold all14_k at hp
      split at hp
      · have hp := dTy_ok hp
        split at hp
        · cases hp; exact ⟨rfl, rfl⟩
        · cases hp
      · cases hp⟩
  · cases h
/-! cubit/cubitref14.Lang -/
noncomputable def lang14 (a0 : List UInt8) : Option (Bool) :=
(cond ((((a0 : List UInt8).length : Nat) : Int) == 2)
((all14 a0 97 122).bind fun x0 =>
(some (x0)))
(cond ((((a0 : List UInt8).length : Nat) : Int) == 3)
((all14 a0 97 122).bind fun x1 =>
(some (x1)))
(some (false))))
noncomputable def lang14_e : List SV → Objs → Option ((β : Type) → (SV → Objs → Option β) → Option β)
  | [.a (.v (.str a0))], os => some fun _ K => (lang14 a0).bind fun p => K (.a (.v (.bool p))) os
  | _, _ => none
noncomputable def lang14_k (sv : SV) (os : Objs) : Option (Bool) := match sv, os with
  | .a (.v v), [] => dTy (.t1 (.k .bool)) v fun v => (match v with | (.bool r0) => some (r0) | _ => none)
  | _, _ => none
noncomputable def lang14_n : FuncId → Nat → Ann := fun f n => match f, n with
  | _, _ => ⟨[], [], false⟩
theorem lang14_q : (fun (a0 : List UInt8) => stN tab0_18 code lang14_n FU 24 18 [.a (.v (.str a0))] [] lang14_k) = (fun (a0 : List UInt8) => lang14 a0) := by kernel_rfl
noncomputable def tab0_19 : ToldK := addTo tab0_18 18 lang14_e
theorem lang14_h : EntryOK tab0_18 code lang14_n FU 24 18 lang14_e := by
  intro args os t h
  unfold lang14_e at h
  split at h
  · rename_i os0 a0
    cases h
    exact ⟨_, _, fun p => (.bool p), lang14_k, ids_all rfl, fun _ _ => rfl, (congrFun lang14_q _), fun sv os p hp => by
      unfold lang14_k at hp
      split at hp
      · have hp := dTy_ok hp
        split at hp
        · cases hp; exact ⟨rfl, rfl⟩
        · cases hp
      · cases hp⟩
  · cases h
/-! cubit/cubitref18.plain -/
noncomputable def plain18_L0 (v : Vs) : Option (Vs ⊕ Vs) := sel v.1 [((asStr? (hV v.2 0)).bind fun x0 =>
((asInt? .i64 (hV v.2 1)).bind fun x1 =>
(cond (decide (x1 < (((x0 : List UInt8).length : Nat) : Int)))
((idxL x0 x1).bind fun x2 =>
(cond (decide (((x2.toNat : Nat) : Int) < 97))
((idxL x0 x1).bind fun x3 =>
(cond (decide (((x3.toNat : Nat) : Int) < 48))
((idxL x0 x1).bind fun x4 =>
(cond (((x4.toNat : Nat) : Int) != 45)
(some (.inr (0, [(.v (.bool false))])))
(some (.inl (0, [(.v (.str x0)), (.v (.int .i64 (IntKind.wrap .i64 (x1 + 1))))])))))
((idxL x0 x1).bind fun x5 =>
(cond (decide (((x5.toNat : Nat) : Int) > 57))
((idxL x0 x1).bind fun x6 =>
(cond (((x6.toNat : Nat) : Int) != 45)
(some (.inr (0, [(.v (.bool false))])))
(some (.inl (0, [(.v (.str x0)), (.v (.int .i64 (IntKind.wrap .i64 (x1 + 1))))])))))
(some (.inl (0, [(.v (.str x0)), (.v (.int .i64 (IntKind.wrap .i64 (x1 + 1))))])))))))
((idxL x0 x1).bind fun x7 =>
(cond (decide (((x7.toNat : Nat) : Int) > 122))
((idxL x0 x1).bind fun x8 =>
(cond (decide (((x8.toNat : Nat) : Int) < 48))
((idxL x0 x1).bind fun x9 =>
(cond (((x9.toNat : Nat) : Int) != 45)
(some (.inr (0, [(.v (.bool false))])))
(some (.inl (0, [(.v (.str x0)), (.v (.int .i64 (IntKind.wrap .i64 (x1 + 1))))])))))
((idxL x0 x1).bind fun x10 =>
(cond (decide (((x10.toNat : Nat) : Int) > 57))
((idxL x0 x1).bind fun x11 =>
(cond (((x11.toNat : Nat) : Int) != 45)
(some (.inr (0, [(.v (.bool false))])))
(some (.inl (0, [(.v (.str x0)), (.v (.int .i64 (IntKind.wrap .i64 (x1 + 1))))])))))
(some (.inl (0, [(.v (.str x0)), (.v (.int .i64 (IntKind.wrap .i64 (x1 + 1))))])))))))
(some (.inl (0, [(.v (.str x0)), (.v (.int .i64 (IntKind.wrap .i64 (x1 + 1))))])))))))
(some (.inr (1, [(.v (.str x0))]))))))]
noncomputable def plain18 (a0 : List UInt8) : Option (Bool) :=
((loopK plain18_L0 FU (0, [(.v (.str a0)), (.v (.int .i64 0))])).bind fun x12 => sel x12.1 [((asBool? (hV x12.2 0)).bind fun x13 =>
(some (x13))),
((asStr? (hV x12.2 0)).bind fun x14 =>
(some ((!(x14 == [])))))])
noncomputable def plain18_e : List SV → Objs → Option ((β : Type) → (SV → Objs → Option β) → Option β)
  | [.a (.v (.str a0))], os => some fun _ K => (plain18 a0).bind fun p => K (.a (.v (.bool p))) os
  | _, _ => none
noncomputable def plain18_k (sv : SV) (os : Objs) : Option (Bool) := match sv, os with
  | .a (.v v), [] => dTy (.t1 (.k .bool)) v fun v => (match v with | (.bool r0) => some (r0) | _ => none)
  | _, _ => none
noncomputable def plain18_n : FuncId → Nat → Ann := fun f n => match f, n with
  | 26, 0 => ⟨[], [⟨[⟨[.a (.h (.t1 (.k .str))), .u, .u, .a (.h (.t1 (.k (.int .i64)))), .u, .u, .u, .u, .u, .u, .u, .u, .u, .u, .u, .u, .u, .u, .u, .u, .u, .u, .u, .u, .u, .u, .u, .u, .u, .u, .u, .u, .u, .u, .u, .u, .u, .u, .u, .u], []⟩], [(.ret, ⟨[.u, .u, .a (.h (.t1 (.k .bool))), .u, .u, .u, .u, .u, .u, .u, .u, .u, .u, .u, .u, .u, .u, .u, .u, .u, .u, .u, .u, .u, .u, .u, .u, .u, .u, .u, .u, .u, .u, .u, .u, .u, .u, .u, .u, .u], []⟩), ((.ex 0), ⟨[.a (.h (.t1 (.k .str))), .u, .u, .u, .u, .u, .u, .u, .u, .u, .u, .u, .u, .u, .u, .u, .u, .u, .u, .u, .u, .u, .u, .u, .u, .u, .u, .u, .u, .u, .u, .u, .u, .u, .u, .u, .u, .u, .u, .u], []⟩)]⟩], false⟩
  | _, _ => ⟨[], [], false⟩
theorem plain18_q : (fun (a0 : List UInt8) => stN tab0_19 code plain18_n FU 24 26 [.a (.v (.str a0))] [] plain18_k) = (fun (a0 : List UInt8) => plain18 a0) := by kernel_rfl
noncomputable def tab0_20 : ToldK := addTo tab0_19 26 plain18_e
theorem plain18_h : EntryOK tab0_19 code plain18_n FU 24 26 plain18_e := by
  intro args os t h
  unfold plain18_e at h
  split at h
  · rename_i os0 a0
    cases h
    exact ⟨_, _, fun p => (.bool p), plain18_k, ids_all rfl, fun _ _ => rfl, (congrFun plain18_q _), fun sv os p hp => by
      unfold plain18_k at hp
      split at hp
      · have hp := dTy_ok hp
        split at hp
        · cases hp; exact ⟨rfl, rfl⟩
        · cases hp
      · cases hp⟩
  · cases h
/-! cubit/cubitref18.times -/
noncomputable def times18_L0 (v : Vs) : Option (Vs ⊕ Vs) := sel v.1 [((asStr? (hV v.2 0)).bind fun x0 =>
((asStr? (hV v.2 1)).bind fun x1 =>
((asInt? .i64 (hV v.2 2)).bind fun x2 =>
((asInt? .i64 (hV v.2 3)).bind fun x3 =>
(cond (decide ((IntKind.wrap .i64 (x3 + (((x1 : List UInt8).length : Nat) : Int))) ≤ (((x0 : List UInt8).length : Nat) : Int)))
((cutL (some x3) (some (IntKind.wrap .i64 (x3 + (((x1 : List UInt8).length : Nat) : Int)))) x0).bind fun x4 =>
(cond (x4 == x1)
(some (.inl (0, [(.v (.str x0)), (.v (.str x1)), (.v (.int .i64 (IntKind.wrap .i64 (x2 + 1)))), (.v (.int .i64 (IntKind.wrap .i64 (x3 + 1))))])))
(some (.inl (0, [(.v (.str x0)), (.v (.str x1)), (.v (.int .i64 x2)), (.v (.int .i64 (IntKind.wrap .i64 (x3 + 1))))])))))
(some (.inr (0, [(.v (.int .i64 x2))]))))))))]
noncomputable def times18 (a0 : List UInt8) (a1 : List UInt8) : Option (Int) :=
((loopK times18_L0 FU (0, [(.v (.str a0)), (.v (.str a1)), (.v (.int .i64 0)), (.v (.int .i64 0))])).bind fun x5 => sel x5.1 [((asInt? .i64 (hV x5.2 0)).bind fun x6 =>
(some (x6)))])
noncomputable def times18_e : List SV → Objs → Option ((β : Type) → (SV → Objs → Option β) → Option β)
  | [.a (.v (.str a0)), .a (.v (.str a1))], os => some fun _ K => (times18 a0 a1).bind fun p => K (.a (.v (.int .i64 p))) os
  | _, _ => none
noncomputable def times18_k (sv : SV) (os : Objs) : Option (Int) := match sv, os with
  | .a (.v v), [] => dTy (.t1 (.k (.int .i64))) v fun v => (match v with | (.int .i64 r0) => some (r0) | _ => none)
  | _, _ => none
noncomputable def times18_n : FuncId → Nat → Ann := fun f n => match f, n with
  | 27, 0 => ⟨[], [⟨[⟨[.a (.h (.t1 (.k .str))), .a (.h (.t1 (.k .str))), .u, .u, .u, .a (.h (.t1 (.k (.int .i64)))), .a (.h (.t1 (.k (.int .i64)))), .u, .u, .u, .u, .u, .u, .u, .u, .u, .u, .u, .u, .u, .u, .u, .u, .u, .u, .u, .u, .u], []⟩], [((.ex 0), ⟨[.u, .u, .u, .u, .u, .a (.h (.t1 (.k (.int .i64)))), .u, .u, .u, .u, .u, .u, .u, .u, .u, .u, .u, .u, .u, .u, .u, .u, .u, .u, .u, .u, .u, .u], []⟩)]⟩], false⟩
  | _, _ => ⟨[], [], false⟩
theorem times18_q : (fun (a0 : List UInt8) (a1 : List UInt8) => stN tab0_20 code times18_n FU 24 27 [.a (.v (.str a0)), .a (.v (.str a1))] [] times18_k) = (fun (a0 : List UInt8) (a1 : List UInt8) => times18 a0 a1) := by kernel_rfl
noncomputable def tab0_21 : ToldK := addTo tab0_20 27 times18_e
theorem times18_h : EntryOK tab0_20 code times18_n FU 24 27 times18_e := by
  intro args os t h
  unfold times18_e at h
  split at h
  · rename_i os0 a0 a1
    cases h
    exact ⟨_, _, fun p => (.int .i64 p), times18_k, ids_all rfl, fun _ _ => rfl, (congrFun (congrFun times18_q _) _), fun sv os p hp => by
      unfold times18_k at hp
      split at hp
      · have hp := dTy_ok hp
        split at hp
        · cases hp; exact ⟨rfl, rfl⟩
        · cases hp
      · cases hp⟩
  · cases h
/-! cubit/cubitref18.letters -/
noncomputable def letters18 (a0 : List UInt8) : Option (Bool) :=
((plain18 a0).bind fun x0 =>
(cond x0
((times18 a0 [45]).bind fun x1 =>
(some ((x1 == 0))))
(some (false))))
noncomputable def letters18_e : List SV → Objs → Option ((β : Type) → (SV → Objs → Option β) → Option β)
  | [.a (.v (.str a0))], os => some fun _ K => (letters18 a0).bind fun p => K (.a (.v (.bool p))) os
  | _, _ => none
noncomputable def letters18_k (sv : SV) (os : Objs) : Option (Bool) := match sv, os with
  | .a (.v v), [] => dTy (.t1 (.k .bool)) v fun v => (match v with | (.bool r0) => some (r0) | _ => none)
  | _, _ => none
noncomputable def letters18_n : FuncId → Nat → Ann := fun f n => match f, n with
  | _, _ => ⟨[], [], false⟩
theorem letters18_q : (fun (a0 : List UInt8) => stN tab0_21 code letters18_n FU 24 19 [.a (.v (.str a0))] [] letters18_k) = (fun (a0 : List UInt8) => letters18 a0) := by kernel_rfl
noncomputable def tab0_22 : ToldK := addTo tab0_21 19 letters18_e
theorem letters18_h : EntryOK tab0_21 code letters18_n FU 24 19 letters18_e := by
  intro args os t h
  unfold letters18_e at h
  split at h
  · rename_i os0 a0
    cases h
    exact ⟨_, _, fun p => (.bool p), letters18_k, ids_all rfl, fun _ _ => rfl, (congrFun letters18_q _), fun sv os p hp => by
      unfold letters18_k at hp
      split at hp
      · have hp := dTy_ok hp
        split at hp
        · cases hp; exact ⟨rfl, rfl⟩
        · cases hp
      · cases hp⟩
  · cases h
/-! (*cubit/cubitref18.Genders).Atom -/
noncomputable def gatom18_L0 (v : Vs) : Option (Vs ⊕ Vs) := sel v.1 [((asPt? (hV v.2 0)).bind fun x0 =>
((asStr? (hV v.2 1)).bind fun x1 =>
((asStr? (hV v.2 2)).bind fun x2 =>
((asInt? .i64 (hV v.2 3)).bind fun x3 =>
((asPtr? 3 (.pt x0)).bind fun x4 =>
((asSl? (x4.getD 0 .nilp)).bind fun x5 =>
((asSl? (x4.getD 1 .nilp)).bind fun x6 =>
((asSl? (x4.getD 2 .nilp)).bind fun x7 =>
(cond (decide (x3 < ((slLen x5 : Nat) : Int)))
((asPtr? 3 (.pt x0)).bind fun x8 =>
((asSl? (x8.getD 0 .nilp)).bind fun x9 =>
((asSl? (x8.getD 1 .nilp)).bind fun x10 =>
((asSl? (x8.getD 2 .nilp)).bind fun x11 =>
((idxL (x9.getD []) x3).bind fun x12 =>
((asStr? x12).bind fun x13 =>
(cond (x13 == x1)
((asPtr? 3 (.pt x0)).bind fun x14 =>
((asSl? (x14.getD 0 .nilp)).bind fun x15 =>
((asSl? (x14.getD 1 .nilp)).bind fun x16 =>
((asSl? (x14.getD 2 .nilp)).bind fun x17 =>
((idxL (x16.getD []) x3).bind fun x18 =>
((asStr? x18).bind fun x19 =>
(cond (x19 == x2)
((asPtr? 3 (.pt x0)).bind fun x20 =>
((asSl? (x20.getD 0 .nilp)).bind fun x21 =>
((asSl? (x20.getD 1 .nilp)).bind fun x22 =>
((asSl? (x20.getD 2 .nilp)).bind fun x23 =>
((idxL (x23.getD []) x3).bind fun x24 =>
((asStr? x24).bind fun x25 =>
(some (.inr (0, [(.v (.str x25))])))))))))
(some (.inl (0, [(.v (.pt x0)), (.v (.str x1)), (.v (.str x2)), (.v (.int .i64 (IntKind.wrap .i64 (x3 + 1))))]))))))))))
(some (.inl (0, [(.v (.pt x0)), (.v (.str x1)), (.v (.str x2)), (.v (.int .i64 (IntKind.wrap .i64 (x3 + 1))))]))))))))))
(some (.inr (1, []))))))))))))]
noncomputable def gatom18 (a0 : Option (List V)) (a1 : List UInt8) (a2 : List UInt8) : Option (List UInt8) :=
((loopK gatom18_L0 FU (0, [(.v (.pt a0)), (.v (.str a1)), (.v (.str a2)), (.v (.int .i64 0))])).bind fun x26 => sel x26.1 [((asStr? (hV x26.2 0)).bind fun x27 =>
(some (x27))),
(some ([]))])
noncomputable def gatom18_e : List SV → Objs → Option ((β : Type) → (SV → Objs → Option β) → Option β)
  | [.a (.v (.pt a0)), .a (.v (.str a1)), .a (.v (.str a2))], os => some fun _ K => (gatom18 a0 a1 a2).bind fun p => K (.a (.v (.str p))) os
  | _, _ => none
noncomputable def gatom18_k (sv : SV) (os : Objs) : Option (List UInt8) := match sv, os with
  | .a (.v v), [] => dTy (.t1 (.k .str)) v fun v => (match v with | (.str r0) => some (r0) | _ => none)
  | _, _ => none
noncomputable def gatom18_n : FuncId → Nat → Ann := fun f n => match f, n with
  | 10, 0 => ⟨[(10, (.ptr [.sl, .sl, .sl])), (11, (.ptr [.sl, .sl, .sl])), (18, (.ptr [.sl, .sl, .sl])), (19, (.ptr [.sl, .sl, .sl])), (22, (.t1 (.k .str))), (28, (.ptr [.sl, .sl, .sl])), (29, (.ptr [.sl, .sl, .sl])), (32, (.t1 (.k .str))), (38, (.ptr [.sl, .sl, .sl])), (39, (.ptr [.sl, .sl, .sl])), (42, (.t1 (.k .str)))], [⟨[⟨[.a (.h (.t1 (.k .pt))), .a (.h (.t1 (.k .str))), .a (.h (.t1 (.k .str))), .u, .u, .u, .u, .a (.h (.t1 (.k (.int .i64)))), .u, .u, .u, .u, .u, .u, .u, .u, .u, .u, .u, .u, .u, .u, .u, .u, .u, .u, .u, .u, .u, .u, .u, .u, .u, .u, .u, .u, .u, .u, .u, .u, .u, .u, .u, .u], []⟩], [(.ret, ⟨[.u, .u, .u, .u, .u, .u, .a (.h (.t1 (.k .str))), .u, .u, .u, .u, .u, .u, .u, .u, .u, .u, .u, .u, .u, .u, .u, .u, .u, .u, .u, .u, .u, .u, .u, .u, .u, .u, .u, .u, .u, .u, .u, .u, .u, .u, .u, .u, .u], []⟩), ((.ex 0), ⟨[.u, .u, .u, .u, .u, .u, .u, .u, .u, .u, .u, .u, .u, .u, .u, .u, .u, .u, .u, .u, .u, .u, .u, .u, .u, .u, .u, .u, .u, .u, .u, .u, .u, .u, .u, .u, .u, .u, .u, .u, .u, .u, .u, .u], []⟩)]⟩], false⟩
  | _, _ => ⟨[], [], false⟩
theorem gatom18_q : (fun (a0 : Option (List V)) (a1 : List UInt8) (a2 : List UInt8) => stN tab0_22 code gatom18_n FU 24 10 [.a (.v (.pt a0)), .a (.v (.str a1)), .a (.v (.str a2))] [] gatom18_k) = (fun (a0 : Option (List V)) (a1 : List UInt8) (a2 : List UInt8) => gatom18 a0 a1 a2) := by kernel_rfl
noncomputable def tab0_23 : ToldK := addTo tab0_22 10 gatom18_e
theorem gatom18_h : EntryOK tab0_22 code gatom18_n FU 24 10 gatom18_e := by
  intro args os t h
  unfold gatom18_e at h
  split at h
  · rename_i os0 a0 a1 a2
    cases h
    exact ⟨_, _, fun p => (.str p), gatom18_k, ids_all rfl, fun _ _ => rfl, (congrFun (congrFun (congrFun gatom18_q _) _) _), fun sv os p hp => by
      unfold gatom18_k at hp
      split at hp
      · have hp := dTy_ok hp
        split at hp
        · cases hp; exact ⟨rfl, rfl⟩
        · cases hp
      · cases hp⟩
  · cases h
/-! (*cubit/cubitref18.Genders).Part -/
noncomputable def gpart18 (a0 : Option (List V)) (a1 : List UInt8) (a2 : Option (List V)) (a3 : Option (List V)) (a4 : List UInt8) : Option (List UInt8) :=
(cond (decide (((slLen a2 : Nat) : Int) > 0))
((idxL (a2.getD []) (IntKind.wrap .i64 (((slLen a2 : Nat) : Int) - 1))).bind fun x0 =>
((asAgg? 3 x0).bind fun x1 =>
((asStr? (x1.getD 0 .nilp)).bind fun x2 =>
((asStr? (x1.getD 1 .nilp)).bind fun x3 =>
((asInt? .i64 (x1.getD 2 .nilp)).bind fun x4 =>
((gatom18 a0 a1 x3).bind fun x5 =>
(some (x5))))))))
(cond (decide (((slLen a3 : Nat) : Int) > 0))
((idxL (a3.getD []) 0).bind fun x6 =>
((asAgg? 3 x6).bind fun x7 =>
((asStr? (x7.getD 0 .nilp)).bind fun x8 =>
((asStr? (x7.getD 1 .nilp)).bind fun x9 =>
((asInt? .i64 (x7.getD 2 .nilp)).bind fun x10 =>
((gatom18 a0 a1 x9).bind fun x11 =>
(some (x11))))))))
(some ([]))))
noncomputable def gpart18_e : List SV → Objs → Option ((β : Type) → (SV → Objs → Option β) → Option β)
  | [.a (.v (.pt a0)), .a (.v (.str a1)), .a (.v (.agg [(.sl a2), (.sl a3), (.str a4)]))], os => some fun _ K => (gpart18 a0 a1 a2 a3 a4).bind fun p => K (.a (.v (.str p))) os
  | _, _ => none
noncomputable def gpart18_k (sv : SV) (os : Objs) : Option (List UInt8) := match sv, os with
  | .a (.v v), [] => dTy (.t1 (.k .str)) v fun v => (match v with | (.str r0) => some (r0) | _ => none)
  | _, _ => none
noncomputable def gpart18_n : FuncId → Nat → Ann := fun f n => match f, n with
  | 12, 0 => ⟨[(19, (.t1 (.agg [.str, .str, (.int .i64)]))), (31, (.t1 (.agg [.str, .str, (.int .i64)])))], [], false⟩
  | _, _ => ⟨[], [], false⟩
theorem gpart18_q : (fun (a0 : Option (List V)) (a1 : List UInt8) (a2 : Option (List V)) (a3 : Option (List V)) (a4 : List UInt8) => stN tab0_23 code gpart18_n FU 24 12 [.a (.v (.pt a0)), .a (.v (.str a1)), .a (.v (.agg [(.sl a2), (.sl a3), (.str a4)]))] [] gpart18_k) = (fun (a0 : Option (List V)) (a1 : List UInt8) (a2 : Option (List V)) (a3 : Option (List V)) (a4 : List UInt8) => gpart18 a0 a1 a2 a3 a4) := by kernel_rfl
noncomputable def tab0_24 : ToldK := addTo tab0_23 12 gpart18_e
theorem gpart18_h : EntryOK tab0_23 code gpart18_n FU 24 12 gpart18_e := by
  intro args os t h
  unfold gpart18_e at h
  split at h
  · rename_i os0 a0 a1 a2 a3 a4
    cases h
    exact ⟨_, _, fun p => (.str p), gpart18_k, ids_all rfl, fun _ _ => rfl, (congrFun (congrFun (congrFun (congrFun (congrFun gpart18_q _) _) _) _) _), fun sv os p hp => by
      unfold gpart18_k at hp
      split at hp
      · have hp := dTy_ok hp
        split at hp
        · cases hp; exact ⟨rfl, rfl⟩
        · cases hp
      · cases hp⟩
  · cases h
/-! cubit/cubitref18.LoadGenders -/
noncomputable def gload18_L1 (v : Vs) : Option (Vs ⊕ Vs) := sel v.1 [((asStr? (hV v.2 0)).bind fun x37 =>
((asStr? (hV v.2 1)).bind fun x38 =>
((asInt? .i64 (hV v.2 2)).bind fun x39 =>
(cond (decide (x39 < 0))
((idxL ([] : List V) x39).bind fun x40 =>
((asStr? x40).bind fun x41 =>
(cond (x41 == x37)
((idxL ([] : List V) x39).bind fun x42 =>
((asStr? x42).bind fun x43 =>
(cond (x43 == x38)
((idxL ([] : List V) x39).bind fun x44 =>
((asStr? x44).bind fun x45 =>
(some (.inr (0, [(.v (.str x45))])))))
(some (.inl (0, [(.v (.str x37)), (.v (.str x38)), (.v (.int .i64 (IntKind.wrap .i64 (x39 + 1))))]))))))
(some (.inl (0, [(.v (.str x37)), (.v (.str x38)), (.v (.int .i64 (IntKind.wrap .i64 (x39 + 1))))]))))))
(some (.inr (1, [])))))))]
noncomputable def gload18_L2 (v : Vs) : Option (Vs ⊕ Vs) := sel v.1 [((asStr? (hV v.2 0)).bind fun x101 =>
((asStr? (hV v.2 1)).bind fun x102 =>
((asInt? .i64 (hV v.2 2)).bind fun x103 =>
(cond (decide (x103 < (((hL v.2 3).length : Nat) : Int)))
((idxL (hL v.2 3) x103).bind fun x104 =>
((asStr? x104).bind fun x105 =>
(cond (x105 == x101)
((idxL (hL v.2 4) x103).bind fun x106 =>
((asStr? x106).bind fun x107 =>
(cond (x107 == x102)
((idxL (hL v.2 5) x103).bind fun x108 =>
((asStr? x108).bind fun x109 =>
(some (.inr (0, [(.v (.str x109)), (.l (hL v.2 3)), (.l (hL v.2 4)), (.l (hL v.2 5))])))))
(some (.inl (0, [(.v (.str x101)), (.v (.str x102)), (.v (.int .i64 (IntKind.wrap .i64 (x103 + 1)))), (.l (hL v.2 3)), (.l (hL v.2 4)), (.l (hL v.2 5))]))))))
(some (.inl (0, [(.v (.str x101)), (.v (.str x102)), (.v (.int .i64 (IntKind.wrap .i64 (x103 + 1)))), (.l (hL v.2 3)), (.l (hL v.2 4)), (.l (hL v.2 5))]))))))
(some (.inr (1, [(.l (hL v.2 3)), (.l (hL v.2 4)), (.l (hL v.2 5))])))))))]
noncomputable def gload18_L0 (v : Vs) : Option (Vs ⊕ Vs) := sel v.1 [((asSl? (hV v.2 0)).bind fun x0 =>
((asInt? .i64 (hV v.2 1)).bind fun x1 =>
(cond (decide (x1 < ((slLen x0 : Nat) : Int)))
((idxL (x0.getD []) x1).bind fun x2 =>
((asAgg? 2 x2).bind fun x3 =>
((asInt? .i64 (x3.getD 0 .nilp)).bind fun x4 =>
((asSl? (x3.getD 1 .nilp)).bind fun x5 =>
(cond (((slLen x5 : Nat) : Int) == 0)
(some (.inl (0, [(.v (.sl x0)), (.v (.int .i64 (IntKind.wrap .i64 (x1 + 1))))])))
((idxL (x5.getD []) 0).bind fun x6 =>
((asStr? x6).bind fun x7 =>
(cond (!(x7 == [103, 101, 110, 100, 101, 114]))
(some (.inl (0, [(.v (.sl x0)), (.v (.int .i64 (IntKind.wrap .i64 (x1 + 1))))])))
(cond (((slLen x5 : Nat) : Int) != 4)
((idxL (x0.getD []) x1).bind fun x8 =>
((asAgg? 2 x8).bind fun x9 =>
((asInt? .i64 (x9.getD 0 .nilp)).bind fun x10 =>
((asSl? (x9.getD 1 .nilp)).bind fun x11 =>
(some (.inr (0, [(.v (.int .i64 x10)), (.v (.int .i64 2))])))))))
((idxL (x5.getD []) 1).bind fun x12 =>
((asStr? x12).bind fun x13 =>
((lang14 x13).bind fun x14 =>
(cond (!x14)
((idxL (x0.getD []) x1).bind fun x15 =>
((asAgg? 2 x15).bind fun x16 =>
((asInt? .i64 (x16.getD 0 .nilp)).bind fun x17 =>
((asSl? (x16.getD 1 .nilp)).bind fun x18 =>
(some (.inr (0, [(.v (.int .i64 x17)), (.v (.int .i64 2))])))))))
((idxL (x5.getD []) 2).bind fun x19 =>
((asStr? x19).bind fun x20 =>
((letters18 x20).bind fun x21 =>
(cond (!x21)
((idxL (x0.getD []) x1).bind fun x22 =>
((asAgg? 2 x22).bind fun x23 =>
((asInt? .i64 (x23.getD 0 .nilp)).bind fun x24 =>
((asSl? (x23.getD 1 .nilp)).bind fun x25 =>
(some (.inr (0, [(.v (.int .i64 x24)), (.v (.int .i64 2))])))))))
((idxL (x5.getD []) 3).bind fun x26 =>
((asStr? x26).bind fun x27 =>
((letters18 x27).bind fun x28 =>
(cond (!x28)
((idxL (x0.getD []) x1).bind fun x29 =>
((asAgg? 2 x29).bind fun x30 =>
((asInt? .i64 (x30.getD 0 .nilp)).bind fun x31 =>
((asSl? (x30.getD 1 .nilp)).bind fun x32 =>
(some (.inr (0, [(.v (.int .i64 x31)), (.v (.int .i64 2))])))))))
((idxL (x5.getD []) 1).bind fun x33 =>
((asStr? x33).bind fun x34 =>
((idxL (x5.getD []) 2).bind fun x35 =>
((asStr? x35).bind fun x36 =>
((loopK gload18_L1 FU (0, [(.v (.str x34)), (.v (.str x36)), (.v (.int .i64 0))])).bind fun x46 => sel x46.1 [((asStr? (hV x46.2 0)).bind fun x47 =>
(cond (!(x47 == []))
((idxL (x0.getD []) x1).bind fun x48 =>
((asAgg? 2 x48).bind fun x49 =>
((asInt? .i64 (x49.getD 0 .nilp)).bind fun x50 =>
((asSl? (x49.getD 1 .nilp)).bind fun x51 =>
(some (.inr (0, [(.v (.int .i64 x50)), (.v (.int .i64 10))])))))))
((idxL (x5.getD []) 1).bind fun x52 =>
((asStr? x52).bind fun x53 =>
((idxL (x5.getD []) 2).bind fun x54 =>
((asStr? x54).bind fun x55 =>
((idxL (x5.getD []) 3).bind fun x56 =>
((asStr? x56).bind fun x57 =>
(some (.inl (1, [(.v (.sl x0)), (.v (.int .i64 (IntKind.wrap .i64 (x1 + 1)))), (.l [(.str x53)]), (.l [(.str x55)]), (.l [(.str x57)])]))))))))))),
((idxL (x5.getD []) 1).bind fun x58 =>
((asStr? x58).bind fun x59 =>
((idxL (x5.getD []) 2).bind fun x60 =>
((asStr? x60).bind fun x61 =>
((idxL (x5.getD []) 3).bind fun x62 =>
((asStr? x62).bind fun x63 =>
(some (.inl (1, [(.v (.sl x0)), (.v (.int .i64 (IntKind.wrap .i64 (x1 + 1)))), (.l [(.str x59)]), (.l [(.str x61)]), (.l [(.str x63)])])))))))))]))))))))))))))))))))))))))
(some (.inr (1, [])))))),
((asSl? (hV v.2 0)).bind fun x64 =>
((asInt? .i64 (hV v.2 1)).bind fun x65 =>
(cond (decide (x65 < ((slLen x64 : Nat) : Int)))
((idxL (x64.getD []) x65).bind fun x66 =>
((asAgg? 2 x66).bind fun x67 =>
((asInt? .i64 (x67.getD 0 .nilp)).bind fun x68 =>
((asSl? (x67.getD 1 .nilp)).bind fun x69 =>
(cond (((slLen x69 : Nat) : Int) == 0)
(some (.inl (1, [(.v (.sl x64)), (.v (.int .i64 (IntKind.wrap .i64 (x65 + 1)))), (.l (hL v.2 2)), (.l (hL v.2 3)), (.l (hL v.2 4))])))
((idxL (x69.getD []) 0).bind fun x70 =>
((asStr? x70).bind fun x71 =>
(cond (!(x71 == [103, 101, 110, 100, 101, 114]))
(some (.inl (1, [(.v (.sl x64)), (.v (.int .i64 (IntKind.wrap .i64 (x65 + 1)))), (.l (hL v.2 2)), (.l (hL v.2 3)), (.l (hL v.2 4))])))
(cond (((slLen x69 : Nat) : Int) != 4)
((idxL (x64.getD []) x65).bind fun x72 =>
((asAgg? 2 x72).bind fun x73 =>
((asInt? .i64 (x73.getD 0 .nilp)).bind fun x74 =>
((asSl? (x73.getD 1 .nilp)).bind fun x75 =>
(some (.inr (0, [(.v (.int .i64 x74)), (.v (.int .i64 2))])))))))
((idxL (x69.getD []) 1).bind fun x76 =>
((asStr? x76).bind fun x77 =>
((lang14 x77).bind fun x78 =>
(cond (!x78)
((idxL (x64.getD []) x65).bind fun x79 =>
((asAgg? 2 x79).bind fun x80 =>
((asInt? .i64 (x80.getD 0 .nilp)).bind fun x81 =>
((asSl? (x80.getD 1 .nilp)).bind fun x82 =>
(some (.inr (0, [(.v (.int .i64 x81)), (.v (.int .i64 2))])))))))
((idxL (x69.getD []) 2).bind fun x83 =>
((asStr? x83).bind fun x84 =>
((letters18 x84).bind fun x85 =>
(cond (!x85)
((idxL (x64.getD []) x65).bind fun x86 =>
((asAgg? 2 x86).bind fun x87 =>
((asInt? .i64 (x87.getD 0 .nilp)).bind fun x88 =>
((asSl? (x87.getD 1 .nilp)).bind fun x89 =>
(some (.inr (0, [(.v (.int .i64 x88)), (.v (.int .i64 2))])))))))
((idxL (x69.getD []) 3).bind fun x90 =>
((asStr? x90).bind fun x91 =>
((letters18 x91).bind fun x92 =>
(cond (!x92)
((idxL (x64.getD []) x65).bind fun x93 =>
((asAgg? 2 x93).bind fun x94 =>
((asInt? .i64 (x94.getD 0 .nilp)).bind fun x95 =>
((asSl? (x94.getD 1 .nilp)).bind fun x96 =>
(some (.inr (0, [(.v (.int .i64 x95)), (.v (.int .i64 2))])))))))
((idxL (x69.getD []) 1).bind fun x97 =>
((asStr? x97).bind fun x98 =>
((idxL (x69.getD []) 2).bind fun x99 =>
((asStr? x99).bind fun x100 =>
((loopK gload18_L2 FU (0, [(.v (.str x98)), (.v (.str x100)), (.v (.int .i64 0)), (.l (hL v.2 2)), (.l (hL v.2 3)), (.l (hL v.2 4))])).bind fun x110 => sel x110.1 [((asStr? (hV x110.2 0)).bind fun x111 =>
(cond (!(x111 == []))
((idxL (x64.getD []) x65).bind fun x112 =>
((asAgg? 2 x112).bind fun x113 =>
((asInt? .i64 (x113.getD 0 .nilp)).bind fun x114 =>
((asSl? (x113.getD 1 .nilp)).bind fun x115 =>
(some (.inr (0, [(.v (.int .i64 x114)), (.v (.int .i64 10))])))))))
((idxL (x69.getD []) 1).bind fun x116 =>
((asStr? x116).bind fun x117 =>
(chk ((fits ((hL x110.2 1).length + 1)) && true)
((idxL (x69.getD []) 2).bind fun x118 =>
((asStr? x118).bind fun x119 =>
(chk ((fits ((hL x110.2 2).length + 1)) && true)
((idxL (x69.getD []) 3).bind fun x120 =>
((asStr? x120).bind fun x121 =>
(chk ((fits ((hL x110.2 3).length + 1)) && true)
(some (.inl (1, [(.v (.sl x64)), (.v (.int .i64 (IntKind.wrap .i64 (x65 + 1)))), (.l ((hL x110.2 1) ++ [(.str x117)] : List V)), (.l ((hL x110.2 2) ++ [(.str x119)] : List V)), (.l ((hL x110.2 3) ++ [(.str x121)] : List V))])))))))))))))),
((idxL (x69.getD []) 1).bind fun x122 =>
((asStr? x122).bind fun x123 =>
(chk ((fits ((hL x110.2 0).length + 1)) && true)
((idxL (x69.getD []) 2).bind fun x124 =>
((asStr? x124).bind fun x125 =>
(chk ((fits ((hL x110.2 1).length + 1)) && true)
((idxL (x69.getD []) 3).bind fun x126 =>
((asStr? x126).bind fun x127 =>
(chk ((fits ((hL x110.2 2).length + 1)) && true)
(some (.inl (1, [(.v (.sl x64)), (.v (.int .i64 (IntKind.wrap .i64 (x65 + 1)))), (.l ((hL x110.2 0) ++ [(.str x123)] : List V)), (.l ((hL x110.2 1) ++ [(.str x125)] : List V)), (.l ((hL x110.2 2) ++ [(.str x127)] : List V))]))))))))))))]))))))))))))))))))))))))))
(some (.inr (2, [(.l (hL v.2 2)), (.l (hL v.2 3)), (.l (hL v.2 4))]))))))]
noncomputable def gload18 (a0 : Option (List V)) : Option (Option (List V) × Int × Int) :=
((loopK gload18_L0 FU (0, [(.v (.sl a0)), (.v (.int .i64 0))])).bind fun x128 => sel x128.1 [((asInt? .i64 (hV x128.2 0)).bind fun x129 =>
((asInt? .i64 (hV x128.2 1)).bind fun x130 =>
(some (none, x129, x130)))),
(some ((some [(.sl none), (.sl none), (.sl none)]), 0, 0)),
(some ((some [(.sl (some (hL x128.2 0))), (.sl (some (hL x128.2 1))), (.sl (some (hL x128.2 2)))]), 0, 0))])
noncomputable def gload18_e : List SV → Objs → Option ((β : Type) → (SV → Objs → Option β) → Option β)
  | [.a (.v (.sl a0))], os => some fun _ K => (gload18 a0).bind fun p => K (.a (.v (.tup [(.pt p.1), (.int .i64 p.2.1), (.int .i64 p.2.2)]))) os
  | _, _ => none
noncomputable def gload18_k (sv : SV) (os : Objs) : Option (Option (List V) × Int × Int) := match sv, os with
  | .a (.v v), [] => dTy (.tup [(.k .pt), (.k (.int .i64)), (.k (.int .i64))]) v fun v => (match v with | (.tup [(.pt r0), (.int .i64 r1), (.int .i64 r2)]) => some (r0, r1, r2) | _ => none)
  | _, _ => none
noncomputable def gload18_n : FuncId → Nat → Ann := fun f n => match f, n with
  | 7, 0 => ⟨[(18, (.t1 (.agg [(.int .i64), .sl]))), (26, (.t1 (.k .str))), (56, (.t1 (.agg [(.int .i64), .sl]))), (35, (.t1 (.k .str))), (42, (.t1 (.k .str))), (49, (.t1 (.k .str))), (61, (.t1 (.k .str))), (64, (.t1 (.k .str))), (70, (.t1 (.agg [(.int .i64), .sl]))), (81, (.t1 (.k .str))), (90, (.t1 (.k .str))), (99, (.t1 (.k .str)))], [⟨[⟨[.a (.h (.t1 (.k .sl))), .u, .u, .u, .u, .a (.loc 0 0), .a (.h (.t1 (.k (.int .i64)))), .u, .u, .u, .u, .u, .u, .u, .u, .u, .u, .u, .u, .u, .u, .u, .u, .u, .u, .u, .u, .u, .u, .u, .u, .u, .u, .u, .u, .u, .u, .u, .u, .u, .u, .u, .u, .u, .u, .u, .u, .u, .u, .u, .u, .u, .u, .u, .u, .u, .u, .u, .u, .u, .u, .u, .u, .u, .u, .u, .u, .u, .u, .u, .u, .u, .u, .u, .u, .u, .u, .u, .u, .u, .u, .u, .u, .u, .u, .u, .u, .u, .u, .u, .u, .u, .u, .u, .u, .u, .u, .u, .u, .u, .u, .u, .u, .u, .u, .u, .u, .u, .u, .u], [.box 65 [.nil, .nil, .nil]]⟩, ⟨[.a (.h (.t1 (.k .sl))), .u, .u, .u, .u, .a (.loc 0 0), .a (.h (.t1 (.k (.int .i64)))), .u, .u, .u, .u, .u, .u, .u, .u, .u, .u, .u, .u, .u, .u, .u, .u, .u, .u, .u, .u, .u, .u, .u, .u, .u, .u, .u, .u, .u, .u, .u, .u, .u, .u, .u, .u, .u, .u, .u, .u, .u, .u, .u, .u, .u, .u, .u, .u, .u, .u, .u, .u, .u, .u, .u, .u, .u, .u, .u, .u, .u, .u, .u, .u, .u, .u, .u, .u, .u, .u, .u, .u, .u, .u, .u, .u, .u, .u, .u, .u, .u, .u, .u, .u, .u, .u, .u, .u, .u, .u, .u, .u, .u, .u, .u, .u, .u, .u, .u, .u, .u, .u, .u], [.box 65 [.own 1, .own 2, .own 3], .ext 9 1, .ext 9 1, .ext 9 1]⟩], [(.ret, ⟨[.u, .u, .a (.np), .a (.h (.t1 (.k (.int .i64)))), .a (.h (.t1 (.k (.int .i64)))), .u, .u, .u, .u, .u, .u, .u, .u, .u, .u, .u, .u, .u, .u, .u, .u, .u, .u, .u, .u, .u, .u, .u, .u, .u, .u, .u, .u, .u, .u, .u, .u, .u, .u, .u, .u, .u, .u, .u, .u, .u, .u, .u, .u, .u, .u, .u, .u, .u, .u, .u, .u, .u, .u, .u, .u, .u, .u, .u, .u, .u, .u, .u, .u, .u, .u, .u, .u, .u, .u, .u, .u, .u, .u, .u, .u, .u, .u, .u, .u, .u, .u, .u, .u, .u, .u, .u, .u, .u, .u, .u, .u, .u, .u, .u, .u, .u, .u, .u, .u, .u, .u, .u, .u, .u], []⟩), ((.ex 0), ⟨[.u, .u, .u, .u, .u, .a (.loc 0 0), .u, .u, .u, .u, .u, .u, .u, .u, .u, .u, .u, .u, .u, .u, .u, .u, .u, .u, .u, .u, .u, .u, .u, .u, .u, .u, .u, .u, .u, .u, .u, .u, .u, .u, .u, .u, .u, .u, .u, .u, .u, .u, .u, .u, .u, .u, .u, .u, .u, .u, .u, .u, .u, .u, .u, .u, .u, .u, .u, .u, .u, .u, .u, .u, .u, .u, .u, .u, .u, .u, .u, .u, .u, .u, .u, .u, .u, .u, .u, .u, .u, .u, .u, .u, .u, .u, .u, .u, .u, .u, .u, .u, .u, .u, .u, .u, .u, .u, .u, .u, .u, .u, .u, .u], [.box 65 [.nil, .nil, .nil]]⟩), ((.ex 0), ⟨[.u, .u, .u, .u, .u, .a (.loc 0 0), .u, .u, .u, .u, .u, .u, .u, .u, .u, .u, .u, .u, .u, .u, .u, .u, .u, .u, .u, .u, .u, .u, .u, .u, .u, .u, .u, .u, .u, .u, .u, .u, .u, .u, .u, .u, .u, .u, .u, .u, .u, .u, .u, .u, .u, .u, .u, .u, .u, .u, .u, .u, .u, .u, .u, .u, .u, .u, .u, .u, .u, .u, .u, .u, .u, .u, .u, .u, .u, .u, .u, .u, .u, .u, .u, .u, .u, .u, .u, .u, .u, .u, .u, .u, .u, .u, .u, .u, .u, .u, .u, .u, .u, .u, .u, .u, .u, .u, .u, .u, .u, .u, .u, .u], [.box 65 [.own 1, .own 2, .own 3], .ext 9 1, .ext 9 1, .ext 9 1]⟩)]⟩], false⟩
  | 10, 1 => ⟨[(22, (.t1 (.k .str))), (32, (.t1 (.k .str))), (42, (.t1 (.k .str)))], [⟨[⟨[.a (.loc 0 0), .a (.h (.t1 (.k .str))), .a (.h (.t1 (.k .str))), .u, .u, .u, .u, .a (.h (.t1 (.k (.int .i64)))), .u, .u, .u, .u, .u, .u, .u, .u, .u, .u, .u, .u, .u, .u, .u, .u, .u, .u, .u, .u, .u, .u, .u, .u, .u, .u, .u, .u, .u, .u, .u, .u, .u, .u, .u, .u], [.box 65 [.nil, .nil, .nil]]⟩], [(.ret, ⟨[.u, .u, .u, .u, .u, .u, .a (.h (.t1 (.k .str))), .u, .u, .u, .u, .u, .u, .u, .u, .u, .u, .u, .u, .u, .u, .u, .u, .u, .u, .u, .u, .u, .u, .u, .u, .u, .u, .u, .u, .u, .u, .u, .u, .u, .u, .u, .u, .u], [.box 65 [.nil, .nil, .nil]]⟩), ((.ex 0), ⟨[.u, .u, .u, .u, .u, .u, .u, .u, .u, .u, .u, .u, .u, .u, .u, .u, .u, .u, .u, .u, .u, .u, .u, .u, .u, .u, .u, .u, .u, .u, .u, .u, .u, .u, .u, .u, .u, .u, .u, .u, .u, .u, .u, .u], [.box 65 [.nil, .nil, .nil]]⟩)]⟩], false⟩
  | 10, 4 => ⟨[(22, (.t1 (.k .str))), (32, (.t1 (.k .str))), (42, (.t1 (.k .str)))], [⟨[⟨[.a (.loc 0 0), .a (.h (.t1 (.k .str))), .a (.h (.t1 (.k .str))), .u, .u, .u, .u, .a (.h (.t1 (.k (.int .i64)))), .u, .u, .u, .u, .u, .u, .u, .u, .u, .u, .u, .u, .u, .u, .u, .u, .u, .u, .u, .u, .u, .u, .u, .u, .u, .u, .u, .u, .u, .u, .u, .u, .u, .u, .u, .u], [.box 65 [.own 1, .own 2, .own 3], .ext 9 1, .ext 9 1, .ext 9 1]⟩], [(.ret, ⟨[.u, .u, .u, .u, .u, .u, .a (.h (.t1 (.k .str))), .u, .u, .u, .u, .u, .u, .u, .u, .u, .u, .u, .u, .u, .u, .u, .u, .u, .u, .u, .u, .u, .u, .u, .u, .u, .u, .u, .u, .u, .u, .u, .u, .u, .u, .u, .u, .u], [.box 65 [.own 1, .own 2, .own 3], .ext 9 1, .ext 9 1, .ext 9 1]⟩), ((.ex 0), ⟨[.u, .u, .u, .u, .u, .u, .u, .u, .u, .u, .u, .u, .u, .u, .u, .u, .u, .u, .u, .u, .u, .u, .u, .u, .u, .u, .u, .u, .u, .u, .u, .u, .u, .u, .u, .u, .u, .u, .u, .u, .u, .u, .u, .u], [.box 65 [.own 1, .own 2, .own 3], .ext 9 1, .ext 9 1, .ext 9 1]⟩)]⟩], false⟩
  | _, _ => ⟨[], [], false⟩
theorem gload18_q : (fun (a0 : Option (List V)) => stN tab0_24 code gload18_n FU 24 7 [.a (.v (.sl a0))] [] gload18_k) = (fun (a0 : Option (List V)) => gload18 a0) := by kernel_rfl
noncomputable def tab0_25 : ToldK := addTo tab0_24 7 gload18_e
theorem gload18_h : EntryOK tab0_24 code gload18_n FU 24 7 gload18_e := by
  intro args os t h
  unfold gload18_e at h
  split at h
  · rename_i os0 a0
    cases h
    exact ⟨_, _, fun p => (.tup [(.pt p.1), (.int .i64 p.2.1), (.int .i64 p.2.2)]), gload18_k, ids_all rfl, fun _ _ => rfl, (congrFun gload18_q _), fun sv os p hp => by
      unfold gload18_k at hp
      split at hp
      · have hp := dTy_ok hp
        split at hp
        · cases hp; exact ⟨rfl, rfl⟩
        · cases hp
      · cases hp⟩
  · cases h
/-! cubit/cubitlaw23.rowsOf -/
noncomputable def rowsOf23_L0 (v : Vs) : Option (Vs ⊕ Vs) := sel v.1 [((asSl? (hV v.2 0)).bind fun x0 =>
((asInt? .i64 (hV v.2 1)).bind fun x1 =>
(cond (decide (x1 < ((slLen x0 : Nat) : Int)))
((idxL (x0.getD []) x1).bind fun x2 =>
((asAgg? 2 x2).bind fun x3 =>
((asInt? .i64 (x3.getD 0 .nilp)).bind fun x4 =>
((asSl? (x3.getD 1 .nilp)).bind fun x5 =>
((idxL (x0.getD []) x1).bind fun x6 =>
((asAgg? 2 x6).bind fun x7 =>
((asInt? .i64 (x7.getD 0 .nilp)).bind fun x8 =>
((asSl? (x7.getD 1 .nilp)).bind fun x9 =>
(some (.inl (1, [(.v (.sl x0)), (.v (.int .i64 (IntKind.wrap .i64 (x1 + 1)))), (.l [(.agg [(.int .i64 x4), (.sl x9)])])])))))))))))
(some (.inr (0, [])))))),
((asSl? (hV v.2 0)).bind fun x10 =>
((asInt? .i64 (hV v.2 1)).bind fun x11 =>
(cond (decide (x11 < ((slLen x10 : Nat) : Int)))
((idxL (x10.getD []) x11).bind fun x12 =>
((asAgg? 2 x12).bind fun x13 =>
((asInt? .i64 (x13.getD 0 .nilp)).bind fun x14 =>
((asSl? (x13.getD 1 .nilp)).bind fun x15 =>
((idxL (x10.getD []) x11).bind fun x16 =>
((asAgg? 2 x16).bind fun x17 =>
((asInt? .i64 (x17.getD 0 .nilp)).bind fun x18 =>
((asSl? (x17.getD 1 .nilp)).bind fun x19 =>
(chk ((fits ((hL v.2 2).length + 1)) && true)
(some (.inl (1, [(.v (.sl x10)), (.v (.int .i64 (IntKind.wrap .i64 (x11 + 1)))), (.l ((hL v.2 2) ++ [(.agg [(.int .i64 x14), (.sl x19)])] : List V))]))))))))))))
(some (.inr (1, [(.l (hL v.2 2))]))))))]
noncomputable def rowsOf23 (a0 : Option (List V)) : Option (Option (List V)) :=
((loopK rowsOf23_L0 FU (0, [(.v (.sl a0)), (.v (.int .i64 0))])).bind fun x20 => sel x20.1 [(some (none)),
(some ((some (hL x20.2 0))))])
noncomputable def rowsOf23_e : List SV → Objs → Option ((β : Type) → (SV → Objs → Option β) → Option β)
  | [.a (.v (.sl a0))], os => some fun _ K => (rowsOf23 a0).bind fun p => K (.a (.v (.sl p))) os
  | _, _ => none
noncomputable def rowsOf23_k (sv : SV) (os : Objs) : Option (Option (List V)) := match sv, os with
  | .a (.v v), [] => dTy (.t1 (.k .sl)) v fun v => (match v with | (.sl r0) => some (r0) | _ => none)
  | _, _ => none
noncomputable def rowsOf23_n : FuncId → Nat → Ann := fun f n => match f, n with
  | 8, 0 => ⟨[(14, (.t1 (.agg [(.int .i64), .sl]))), (19, (.t1 (.agg [(.int .i64), .sl])))], [⟨[⟨[.a (.h (.t1 (.k .sl))), .u, .u, .a (.nil), .a (.h (.t1 (.k (.int .i64)))), .u, .u, .u, .u, .u, .u, .u, .u, .u, .u, .u, .u, .u, .u, .u, .u, .u, .u, .u, .u, .u], []⟩, ⟨[.a (.h (.t1 (.k .sl))), .u, .u, .a (.own 0), .a (.h (.t1 (.k (.int .i64)))), .u, .u, .u, .u, .u, .u, .u, .u, .u, .u, .u, .u, .u, .u, .u, .u, .u, .u, .u, .u, .u], [.ext 66 2]⟩], [((.ex 0), ⟨[.u, .u, .u, .a (.nil), .u, .u, .u, .u, .u, .u, .u, .u, .u, .u, .u, .u, .u, .u, .u, .u, .u, .u, .u, .u, .u, .u], []⟩), ((.ex 0), ⟨[.u, .u, .u, .a (.own 0), .u, .u, .u, .u, .u, .u, .u, .u, .u, .u, .u, .u, .u, .u, .u, .u, .u, .u, .u, .u, .u, .u], [.ext 66 2]⟩)]⟩], false⟩
  | _, _ => ⟨[], [], false⟩
theorem rowsOf23_q : (fun (a0 : Option (List V)) => stN tab0_25 code rowsOf23_n FU 24 8 [.a (.v (.sl a0))] [] rowsOf23_k) = (fun (a0 : Option (List V)) => rowsOf23 a0) := by kernel_rfl
noncomputable def tab0_26 : ToldK := addTo tab0_25 8 rowsOf23_e
theorem rowsOf23_h : EntryOK tab0_25 code rowsOf23_n FU 24 8 rowsOf23_e := by
  intro args os t h
  unfold rowsOf23_e at h
  split at h
  · rename_i os0 a0
    cases h
    exact ⟨_, _, fun p => (.sl p), rowsOf23_k, ids_all rfl, fun _ _ => rfl, (congrFun rowsOf23_q _), fun sv os p hp => by
      unfold rowsOf23_k at hp
      split at hp
      · have hp := dTy_ok hp
        split at hp
        · cases hp; exact ⟨rfl, rfl⟩
        · cases hp
      · cases hp⟩
  · cases h
/-! cubit/cubitlaw23.atomsOf -/
noncomputable def atomsOf23_L0 (v : Vs) : Option (Vs ⊕ Vs) := sel v.1 [((asSl? (hV v.2 0)).bind fun x0 =>
((asInt? .i64 (hV v.2 1)).bind fun x1 =>
(cond (decide (x1 < ((slLen x0 : Nat) : Int)))
((idxL (x0.getD []) x1).bind fun x2 =>
((asAgg? 3 x2).bind fun x3 =>
((asStr? (x3.getD 0 .nilp)).bind fun x4 =>
((asStr? (x3.getD 1 .nilp)).bind fun x5 =>
((asInt? .i64 (x3.getD 2 .nilp)).bind fun x6 =>
(some (.inl (1, [(.v (.sl x0)), (.v (.int .i64 (IntKind.wrap .i64 (x1 + 1)))), (.l [(.agg [(.str x4), (.str x5), (.int .i64 x6)])])]))))))))
(some (.inr (0, [])))))),
((asSl? (hV v.2 0)).bind fun x7 =>
((asInt? .i64 (hV v.2 1)).bind fun x8 =>
(cond (decide (x8 < ((slLen x7 : Nat) : Int)))
((idxL (x7.getD []) x8).bind fun x9 =>
((asAgg? 3 x9).bind fun x10 =>
((asStr? (x10.getD 0 .nilp)).bind fun x11 =>
((asStr? (x10.getD 1 .nilp)).bind fun x12 =>
((asInt? .i64 (x10.getD 2 .nilp)).bind fun x13 =>
(chk ((fits ((hL v.2 2).length + 1)) && true)
(some (.inl (1, [(.v (.sl x7)), (.v (.int .i64 (IntKind.wrap .i64 (x8 + 1)))), (.l ((hL v.2 2) ++ [(.agg [(.str x11), (.str x12), (.int .i64 x13)])] : List V))])))))))))
(some (.inr (1, [(.l (hL v.2 2))]))))))]
noncomputable def atomsOf23 (a0 : Option (List V)) : Option (Option (List V)) :=
((loopK atomsOf23_L0 FU (0, [(.v (.sl a0)), (.v (.int .i64 0))])).bind fun x14 => sel x14.1 [(some (none)),
(some ((some (hL x14.2 0))))])
noncomputable def atomsOf23_e : List SV → Objs → Option ((β : Type) → (SV → Objs → Option β) → Option β)
  | [.a (.v (.sl a0))], os => some fun _ K => (atomsOf23 a0).bind fun p => K (.a (.v (.sl p))) os
  | _, _ => none
noncomputable def atomsOf23_k (sv : SV) (os : Objs) : Option (Option (List V)) := match sv, os with
  | .a (.v v), [] => dTy (.t1 (.k .sl)) v fun v => (match v with | (.sl r0) => some (r0) | _ => none)
  | _, _ => none
noncomputable def atomsOf23_n : FuncId → Nat → Ann := fun f n => match f, n with
  | 20, 0 => ⟨[(14, (.t1 (.agg [.str, .str, (.int .i64)])))], [⟨[⟨[.a (.h (.t1 (.k .sl))), .u, .u, .a (.nil), .a (.h (.t1 (.k (.int .i64)))), .u, .u, .u, .u, .u, .u, .u, .u, .u, .u, .u, .u, .u, .u, .u], []⟩, ⟨[.a (.h (.t1 (.k .sl))), .u, .u, .a (.own 0), .a (.h (.t1 (.k (.int .i64)))), .u, .u, .u, .u, .u, .u, .u, .u, .u, .u, .u, .u, .u, .u, .u], [.ext 70 3]⟩], [((.ex 0), ⟨[.u, .u, .u, .a (.nil), .u, .u, .u, .u, .u, .u, .u, .u, .u, .u, .u, .u, .u, .u, .u, .u], []⟩), ((.ex 0), ⟨[.u, .u, .u, .a (.own 0), .u, .u, .u, .u, .u, .u, .u, .u, .u, .u, .u, .u, .u, .u, .u, .u], [.ext 70 3]⟩)]⟩], false⟩
  | _, _ => ⟨[], [], false⟩
theorem atomsOf23_q : (fun (a0 : Option (List V)) => stN tab0_26 code atomsOf23_n FU 24 20 [.a (.v (.sl a0))] [] atomsOf23_k) = (fun (a0 : Option (List V)) => atomsOf23 a0) := by kernel_rfl
noncomputable def tab0_27 : ToldK := addTo tab0_26 20 atomsOf23_e
theorem atomsOf23_h : EntryOK tab0_26 code atomsOf23_n FU 24 20 atomsOf23_e := by
  intro args os t h
  unfold atomsOf23_e at h
  split at h
  · rename_i os0 a0
    cases h
    exact ⟨_, _, fun p => (.sl p), atomsOf23_k, ids_all rfl, fun _ _ => rfl, (congrFun atomsOf23_q _), fun sv os p hp => by
      unfold atomsOf23_k at hp
      split at hp
      · have hp := dTy_ok hp
        split at hp
        · cases hp; exact ⟨rfl, rfl⟩
        · cases hp
      · cases hp⟩
  · cases h
/-! cubit/cubitlaw23.partOf -/
noncomputable def partOf23 (a0 : Option (List V)) (a1 : Option (List V)) (a2 : Option (List V)) : Option (Option (List V) × Option (List V) × List UInt8) :=
((atomsOf23 a0).bind fun x0 =>
((atomsOf23 a1).bind fun x1 =>
((ntext a2).bind fun x2 =>
(some (x0, x1, x2)))))
noncomputable def partOf23_e : List SV → Objs → Option ((β : Type) → (SV → Objs → Option β) → Option β)
  | [.a (.v (.agg [(.sl a0), (.sl a1), (.sl a2)]))], os => some fun _ K => (partOf23 a0 a1 a2).bind fun p => K (.a (.v (.agg [(.sl p.1), (.sl p.2.1), (.str p.2.2)]))) os
  | _, _ => none
noncomputable def partOf23_k (sv : SV) (os : Objs) : Option (Option (List V) × Option (List V) × List UInt8) := match sv, os with
  | .a (.v v), [] => dTy (.t1 (.agg [.sl, .sl, .str])) v fun v => (match v with | (.agg [(.sl r0), (.sl r1), (.str r2)]) => some (r0, r1, r2) | _ => none)
  | _, _ => none
noncomputable def partOf23_n : FuncId → Nat → Ann := fun f n => match f, n with
  | _, _ => ⟨[], [], false⟩
theorem partOf23_q : (fun (a0 : Option (List V)) (a1 : Option (List V)) (a2 : Option (List V)) => stN tab0_27 code partOf23_n FU 24 13 [.a (.v (.agg [(.sl a0), (.sl a1), (.sl a2)]))] [] partOf23_k) = (fun (a0 : Option (List V)) (a1 : Option (List V)) (a2 : Option (List V)) => partOf23 a0 a1 a2) := by kernel_rfl
noncomputable def tab0_28 : ToldK := addTo tab0_27 13 partOf23_e
theorem partOf23_h : EntryOK tab0_27 code partOf23_n FU 24 13 partOf23_e := by
  intro args os t h
  unfold partOf23_e at h
  split at h
  · rename_i os0 a0 a1 a2
    cases h
    exact ⟨_, _, fun p => (.agg [(.sl p.1), (.sl p.2.1), (.str p.2.2)]), partOf23_k, ids_all rfl, fun _ _ => rfl, (congrFun (congrFun (congrFun partOf23_q _) _) _), fun sv os p hp => by
      unfold partOf23_k at hp
      split at hp
      · have hp := dTy_ok hp
        split at hp
        · cases hp; exact ⟨rfl, rfl⟩
        · cases hp
      · cases hp⟩
  · cases h
/-! cubit/cubitlaw23.heavy -/
noncomputable abbrev heavy23 := Go.Ev.heavy
noncomputable def heavy23_e : List SV → Objs → Option ((β : Type) → (SV → Objs → Option β) → Option β)
  | [.a (.v (.sl a0))], os => some fun _ K => (heavy23 a0).bind fun p => K (.a (.v (.bool p))) os
  | _, _ => none
noncomputable def heavy23_k (sv : SV) (os : Objs) : Option (Bool) := match sv, os with
  | .a (.v v), [] => dTy (.t1 (.k .bool)) v fun v => (match v with | (.bool r0) => some (r0) | _ => none)
  | _, _ => none
noncomputable def heavy23_n : FuncId → Nat → Ann := fun f n => match f, n with
  | 5, 0 => ⟨[(16, (.t1 (.agg [(.int .i64), .sl]))), (24, (.t1 (.agg [(.int .i64), .sl]))), (33, (.t1 (.agg [(.int .i64), .sl]))), (37, (.t1 (.k .str)))], [⟨[⟨[.a (.h (.t1 (.k .sl))), .u, .u, .a (.h (.t1 (.k (.int .i64)))), .u, .u, .u, .u, .u, .u, .u, .u, .u, .u, .u, .u, .u, .u, .u, .u, .u, .u, .u, .u, .u, .u, .u, .u, .u, .u, .u, .u, .u, .u, .u, .u, .u, .u, .u, .u, .u], []⟩], [(.ret, ⟨[.u, .u, .a (.h (.t1 (.k .bool))), .u, .u, .u, .u, .u, .u, .u, .u, .u, .u, .u, .u, .u, .u, .u, .u, .u, .u, .u, .u, .u, .u, .u, .u, .u, .u, .u, .u, .u, .u, .u, .u, .u, .u, .u, .u, .u, .u], []⟩), ((.ex 0), ⟨[.u, .u, .u, .u, .u, .u, .u, .u, .u, .u, .u, .u, .u, .u, .u, .u, .u, .u, .u, .u, .u, .u, .u, .u, .u, .u, .u, .u, .u, .u, .u, .u, .u, .u, .u, .u, .u, .u, .u, .u, .u], []⟩)]⟩, ⟨[⟨[.a (.h (.t1 (.k .sl))), .u, .u, .a (.h (.t1 (.k (.int .i64)))), .a (.h (.t1 (.k (.int .i64)))), .u, .u, .u, .u, .u, .u, .u, .u, .u, .u, .u, .u, .u, .u, .u, .u, .u, .u, .u, .u, .u, .u, .u, .u, .u, .u, .u, .u, .u, .u, .u, .u, .u, .u, .u, .u], []⟩], [(.ret, ⟨[.u, .u, .a (.h (.t1 (.k .bool))), .u, .u, .u, .u, .u, .u, .u, .u, .u, .u, .u, .u, .u, .u, .u, .u, .u, .u, .u, .u, .u, .u, .u, .u, .u, .u, .u, .u, .u, .u, .u, .u, .u, .u, .u, .u, .u, .u], []⟩), ((.ex 2), ⟨[.a (.h (.t1 (.k .sl))), .u, .u, .a (.h (.t1 (.k (.int .i64)))), .u, .u, .u, .u, .u, .u, .u, .u, .u, .u, .u, .u, .u, .u, .u, .u, .u, .u, .u, .u, .u, .u, .u, .u, .u, .u, .u, .u, .u, .u, .u, .u, .u, .u, .u, .u, .u], []⟩)]⟩], false⟩
  | _, _ => ⟨[], [], false⟩
theorem heavy23_q : (fun (a0 : Option (List V)) => stN tab0_28 code heavy23_n FU 24 5 [.a (.v (.sl a0))] [] heavy23_k) = (fun (a0 : Option (List V)) => heavy23 a0) := by kernel_rfl
noncomputable def tab0_29 : ToldK := addTo tab0_28 5 heavy23_e
theorem heavy23_h : EntryOK tab0_28 code heavy23_n FU 24 5 heavy23_e := by
  intro args os t h
  unfold heavy23_e at h
  split at h
  · rename_i os0 a0
    cases h
    exact ⟨_, _, fun p => (.bool p), heavy23_k, ids_all rfl, fun _ _ => rfl, (congrFun heavy23_q _), fun sv os p hp => by
      unfold heavy23_k at hp
      split at hp
      · have hp := dTy_ok hp
        split at hp
        · cases hp; exact ⟨rfl, rfl⟩
        · cases hp
      · cases hp⟩
  · cases h
/-! cubit/cubitlaw23.load -/
noncomputable def load23 (a0 : List UInt8) : Option (Option (List V) × Int × Int) :=
((rparse a0).bind fun x0 =>
(cond (x0.2.2 != 0)
(some (none, 0, x0.2.2))
((gload x0.1).bind fun x1 =>
(some (x1.1, x1.2.1, x1.2.2)))))
noncomputable def load23_e : List SV → Objs → Option ((β : Type) → (SV → Objs → Option β) → Option β)
  | [.a (.v (.str a0))], os => some fun _ K => (load23 a0).bind fun p => K (.a (.v (.tup [(.pt p.1), (.int .i64 p.2.1), (.int .i64 p.2.2)]))) os
  | _, _ => none
noncomputable def load23_k (sv : SV) (os : Objs) : Option (Option (List V) × Int × Int) := match sv, os with
  | .a (.v v), [] => dTy (.tup [(.k .pt), (.k (.int .i64)), (.k (.int .i64))]) v fun v => (match v with | (.tup [(.pt r0), (.int .i64 r1), (.int .i64 r2)]) => some (r0, r1, r2) | _ => none)
  | _, _ => none
noncomputable def load23_n : FuncId → Nat → Ann := fun f n => match f, n with
  | _, _ => ⟨[], [], false⟩
theorem load23_q : (fun (a0 : List UInt8) => stN tab0_29 code load23_n FU 24 15 [.a (.v (.str a0))] [] load23_k) = (fun (a0 : List UInt8) => load23 a0) := by kernel_rfl
noncomputable def tab0_30 : ToldK := addTo tab0_29 15 load23_e
theorem load23_h : EntryOK tab0_29 code load23_n FU 24 15 load23_e := by
  intro args os t h
  unfold load23_e at h
  split at h
  · rename_i os0 a0
    cases h
    exact ⟨_, _, fun p => (.tup [(.pt p.1), (.int .i64 p.2.1), (.int .i64 p.2.2)]), load23_k, ids_all rfl, fun _ _ => rfl, (congrFun load23_q _), fun sv os p hp => by
      unfold load23_k at hp
      split at hp
      · have hp := dTy_ok hp
        split at hp
        · cases hp; exact ⟨rfl, rfl⟩
        · cases hp
      · cases hp⟩
  · cases h
/-! cubit/cubitlaw23.awake -/
noncomputable def awake23 : Option (Bool) := some true
noncomputable def awake23_e : EntryT
  | [], os => some fun _ K => awake23.bind fun p => K (.a (.v (.bool p))) os
  | _, _ => none
theorem awake23_q : callM (toE tab0_30) code FU 24 4 [] [] = some ⟨.a (.v (.bool true)), []⟩ := by kernel_rfl
noncomputable def tab0_31 : ToldK := addTo tab0_30 4 awake23_e
theorem awake23_h : EntryEv tab0_30 code FU 24 4 awake23_e := by
  intro args os t h
  unfold awake23_e at h
  split at h
  · cases h
    exact ⟨.bool true, ids_all rfl, fun _ _ => rfl, awake23_q⟩
  · cases h
/-! cubit/cubitlaw23.GenderSays -/
noncomputable def lsays (a0 : Option (List V)) (a1 : List UInt8) (a2 : Option (List V)) (a3 : Option (List V)) (a4 : Option (List V)) (a5 : List UInt8) (a6 : List UInt8) (a7 : Int) : Option (Bool) :=
((awake23 ).bind fun x0 =>
(cond (!x0)
(some (false))
((heavy23 a0).bind fun x1 =>
(cond x1
(some (true))
(cond (decide (((slLen a2 : Nat) : Int) > 10))
(some (true))
(cond (decide (((slLen a3 : Nat) : Int) > 10))
(some (true))
(cond (decide (((slLen a4 : Nat) : Int) > 6))
(some (true))
((gload a0).bind fun x2 =>
((rowsOf23 a0).bind fun x3 =>
((gload18 x3).bind fun x4 =>
(cond (x2.2.2 != x4.2.2)
(some (false))
(cond (x2.2.1 != x4.2.1)
(some (false))
(cond (x2.2.2 != 0)
(cond (!(x2.1.isNone))
(some (false))
(cond (x2.2.2 != 0)
(some (true))
(cond (!(x2.1.isNone))
((gatom x2.1 a1 a5 a6 a7).bind fun x5 =>
((gatom18 x4.1 a1 a6).bind fun x6 =>
(cond (x5 == x6)
((gpart x2.1 a1 a2 a3 a4).bind fun x7 =>
((partOf23 a2 a3 a4).bind fun x8 =>
((gpart18 x4.1 a1 x8.1 x8.2.1 x8.2.2).bind fun x9 =>
(cond (x7 == x9)
((gwhole x2.1 a1 (some [(.agg [(.sl a2), (.sl a3), (.sl a4)])])).bind fun x10 =>
((gpart x2.1 a1 a2 a3 a4).bind fun x11 =>
(some ((x10 == x11)))))
(some (false))))))
(some (false)))))
(some (false)))))
(cond (x2.2.2 != 0)
(some (true))
(cond (!(x2.1.isNone))
((gatom x2.1 a1 a5 a6 a7).bind fun x12 =>
((gatom18 x4.1 a1 a6).bind fun x13 =>
(cond (x12 == x13)
((gpart x2.1 a1 a2 a3 a4).bind fun x14 =>
((partOf23 a2 a3 a4).bind fun x15 =>
((gpart18 x4.1 a1 x15.1 x15.2.1 x15.2.2).bind fun x16 =>
(cond (x14 == x16)
((gwhole x2.1 a1 (some [(.agg [(.sl a2), (.sl a3), (.sl a4)])])).bind fun x17 =>
((gpart x2.1 a1 a2 a3 a4).bind fun x18 =>
(some ((x17 == x18)))))
(some (false))))))
(some (false)))))
(some (false)))))))))))))))))
noncomputable def lsays_e : List SV → Objs → Option ((β : Type) → (SV → Objs → Option β) → Option β)
  | [.a (.v (.sl a0)), .a (.v (.str a1)), .a (.v (.agg [(.sl a2), (.sl a3), (.sl a4)])), .a (.v (.agg [(.str a5), (.str a6), (.int .i64 a7)]))], os => some fun _ K => (lsays a0 a1 a2 a3 a4 a5 a6 a7).bind fun p => K (.a (.v (.bool p))) os
  | _, _ => none
noncomputable def lsays_k (sv : SV) (os : Objs) : Option (Bool) := match sv, os with
  | .a (.v v), [] => dTy (.t1 (.k .bool)) v fun v => (match v with | (.bool r0) => some (r0) | _ => none)
  | _, _ => none
noncomputable def lsays_n : FuncId → Nat → Ann := fun f n => match f, n with
  | _, _ => ⟨[], [], false⟩
theorem lsays_q : (fun (a0 : Option (List V)) (a1 : List UInt8) (a2 : Option (List V)) (a3 : Option (List V)) (a4 : Option (List V)) (a5 : List UInt8) (a6 : List UInt8) (a7 : Int) => stN tab0_31 code lsays_n FU 24 3 [.a (.v (.sl a0)), .a (.v (.str a1)), .a (.v (.agg [(.sl a2), (.sl a3), (.sl a4)])), .a (.v (.agg [(.str a5), (.str a6), (.int .i64 a7)]))] [] lsays_k) = (fun (a0 : Option (List V)) (a1 : List UInt8) (a2 : Option (List V)) (a3 : Option (List V)) (a4 : Option (List V)) (a5 : List UInt8) (a6 : List UInt8) (a7 : Int) => lsays a0 a1 a2 a3 a4 a5 a6 a7) := by kernel_rfl
noncomputable def tab0_32 : ToldK := addTo tab0_31 3 lsays_e
theorem lsays_h : EntryOK tab0_31 code lsays_n FU 24 3 lsays_e := by
  intro args os t h
  unfold lsays_e at h
  split at h
  · rename_i os0 a0 a1 a2 a3 a4 a5 a6 a7
    cases h
    exact ⟨_, _, fun p => (.bool p), lsays_k, ids_all rfl, fun _ _ => rfl, (congrFun (congrFun (congrFun (congrFun (congrFun (congrFun (congrFun (congrFun lsays_q _) _) _) _) _) _) _) _), fun sv os p hp => by
      unfold lsays_k at hp
      split at hp
      · have hp := dTy_ok hp
        split at hp
        · cases hp; exact ⟨rfl, rfl⟩
        · cases hp
      · cases hp⟩
  · cases h
end Go.Proofs.YtmlhdhndjgdoaaaDoor.gs
