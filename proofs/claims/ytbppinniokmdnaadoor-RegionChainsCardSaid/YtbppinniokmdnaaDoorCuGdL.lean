/- The staged evaluator over the program, in normal form: printed by a program (sym.lean), each held against it by the kernel. -/
import Derived.Test.YtbppinniokmdnaaDoorCuGdC
namespace Go.Proofs.YtbppinniokmdnaaDoor.gd
open Go Go.Ev
set_option maxRecDepth 1000000
set_option linter.unusedVariables false
abbrev FU : Nat := 4294967296
/-! cubit/rows.words -/
noncomputable def rwords_L0 (v : Vs) : Option (Vs ⊕ Vs) := sel v.1 [((asSl? (hV v.2 0)).bind fun x1 =>
((asInt? .i64 (hV v.2 1)).bind fun x2 =>
((asInt? .i64 (hV v.2 2)).bind fun x3 =>
(cond (decide (x3 < x2))
((idxL (x1.getD []) x3).bind fun x4 =>
((asStr? x4).bind fun x5 =>
(cond (decide ((((x5 : List UInt8).length : Nat) : Int) ≥ 1))
((cutL none (some 1) x5).bind fun x6 =>
(cond (x6 == [35])
(some (.inr (0, [])))
(cond (!(x5 == []))
(some (.inl (1, [(.v (.sl x1)), (.v (.int .i64 x2)), (.v (.int .i64 (IntKind.wrap .i64 (x3 + 1)))), (.l [(.str x5)])])))
(some (.inl (0, [(.v (.sl x1)), (.v (.int .i64 x2)), (.v (.int .i64 (IntKind.wrap .i64 (x3 + 1))))]))))))
(cond (!(x5 == []))
(some (.inl (1, [(.v (.sl x1)), (.v (.int .i64 x2)), (.v (.int .i64 (IntKind.wrap .i64 (x3 + 1)))), (.l [(.str x5)])])))
(some (.inl (0, [(.v (.sl x1)), (.v (.int .i64 x2)), (.v (.int .i64 (IntKind.wrap .i64 (x3 + 1))))])))))))
(some (.inr (0, []))))))),
((asSl? (hV v.2 0)).bind fun x7 =>
((asInt? .i64 (hV v.2 1)).bind fun x8 =>
((asInt? .i64 (hV v.2 2)).bind fun x9 =>
(cond (decide (x9 < x8))
((idxL (x7.getD []) x9).bind fun x10 =>
((asStr? x10).bind fun x11 =>
(cond (decide ((((x11 : List UInt8).length : Nat) : Int) ≥ 1))
((cutL none (some 1) x11).bind fun x12 =>
(cond (x12 == [35])
(some (.inr (1, [(.l (hL v.2 3))])))
(cond (!(x11 == []))
(chk ((fits ((hL v.2 3).length + 1)) && true)
(some (.inl (1, [(.v (.sl x7)), (.v (.int .i64 x8)), (.v (.int .i64 (IntKind.wrap .i64 (x9 + 1)))), (.l ((hL v.2 3) ++ [(.str x11)]))]))))
(some (.inl (1, [(.v (.sl x7)), (.v (.int .i64 x8)), (.v (.int .i64 (IntKind.wrap .i64 (x9 + 1)))), (.l (hL v.2 3))]))))))
(cond (!(x11 == []))
(chk ((fits ((hL v.2 3).length + 1)) && true)
(some (.inl (1, [(.v (.sl x7)), (.v (.int .i64 x8)), (.v (.int .i64 (IntKind.wrap .i64 (x9 + 1)))), (.l ((hL v.2 3) ++ [(.str x11)]))]))))
(some (.inl (1, [(.v (.sl x7)), (.v (.int .i64 x8)), (.v (.int .i64 (IntKind.wrap .i64 (x9 + 1)))), (.l (hL v.2 3))])))))))
(some (.inr (1, [(.l (hL v.2 3))])))))))]
noncomputable def rwords (a0 : List UInt8) : Option (Option (List V)) :=
((spl a0 [32]).bind fun x0 =>
((loopK rwords_L0 FU (0, [(.v (.sl x0)), (.v (.int .i64 ((slLen x0 : Nat) : Int))), (.v (.int .i64 0))])).bind fun x13 => sel x13.1 [(some (none)),
(some ((some (hL x13.2 0))))]))
noncomputable def rwords_e : List SV → Objs → Option ((β : Type) → (SV → Objs → Option β) → Option β)
  | [.a (.v (.str a0))], os => some fun _ K => (rwords a0).bind fun p => K (.a (.v (.sl p))) os
  | _, _ => none
noncomputable def rwords_k (sv : SV) (os : Objs) : Option (Option (List V)) := match sv, os with
  | .a (.v v), [] => dTy (.t1 (.k .sl)) v fun v => (match v with | (.sl r0) => some (r0) | _ => none)
  | _, _ => none
noncomputable def rwords_n : FuncId → Nat → Ann := fun f n => match f, n with
  | 50, 0 => ⟨[(11, (.t1 (.k .str)))], [⟨[⟨[.u, .u, .u, .a (.nil), .u, .u, .u, .a (.h (.t1 (.k .sl))), .a (.h (.t1 (.k (.int .i64)))), .a (.h (.t1 (.k (.int .i64)))), .u, .u, .u, .u, .u, .u, .u, .u, .u, .u, .u, .u, .u], []⟩, ⟨[.u, .u, .u, .a (.own 0), .u, .u, .u, .a (.h (.t1 (.k .sl))), .a (.h (.t1 (.k (.int .i64)))), .a (.h (.t1 (.k (.int .i64)))), .u, .u, .u, .u, .u, .u, .u, .u, .u, .u, .u, .u, .u], [.ext 9 1]⟩], [((.ex 0), ⟨[.u, .u, .u, .a (.nil), .u, .u, .u, .u, .u, .u, .u, .u, .u, .u, .u, .u, .u, .u, .u, .u, .u, .u, .u], []⟩), ((.ex 0), ⟨[.u, .u, .u, .a (.own 0), .u, .u, .u, .u, .u, .u, .u, .u, .u, .u, .u, .u, .u, .u, .u, .u, .u, .u, .u], [.ext 9 1]⟩)]⟩], false⟩
  | _, _ => ⟨[], [], false⟩
theorem rwords_q : (fun (a0 : List UInt8) => stN tab0 code rwords_n FU 24 50 [.a (.v (.str a0))] [] rwords_k) = (fun (a0 : List UInt8) => rwords a0) := by kernel_rfl
noncomputable def tab0_1 : ToldK := addTo tab0 50 rwords_e
theorem rwords_h : EntryOK tab0 code rwords_n FU 24 50 rwords_e := by
  intro args os t h
  unfold rwords_e at h
  split at h
  · rename_i os0 a0
    cases h
    exact ⟨_, _, fun p => (.sl p), rwords_k, ids_all rfl, fun _ _ => rfl, (congrFun rwords_q _), fun sv os p hp => by
      unfold rwords_k at hp
      split at hp
      · have hp := dTy_ok hp
        split at hp
        · cases hp; exact ⟨rfl, rfl⟩
        · cases hp
      · cases hp⟩
  · cases h
/-! cubit/rows.odd -/
noncomputable def rodd (a0 : Int) : Option (Bool) :=
(cond (decide (a0 < 32))
(some (true))
(some ((decide (a0 > 126)))))
noncomputable def rodd_e : List SV → Objs → Option ((β : Type) → (SV → Objs → Option β) → Option β)
  | [.a (.v (.int .i32 a0))], os => some fun _ K => (rodd a0).bind fun p => K (.a (.v (.bool p))) os
  | _, _ => none
noncomputable def rodd_k (sv : SV) (os : Objs) : Option (Bool) := match sv, os with
  | .a (.v v), [] => dTy (.t1 (.k .bool)) v fun v => (match v with | (.bool r0) => some (r0) | _ => none)
  | _, _ => none
noncomputable def rodd_n : FuncId → Nat → Ann := fun f n => match f, n with
  | _, _ => ⟨[], [], false⟩
theorem rodd_q : (fun (a0 : Int) => stN tab0_1 code rodd_n FU 24 52 [.a (.v (.int .i32 a0))] [] rodd_k) = (fun (a0 : Int) => rodd a0) := by kernel_rfl
noncomputable def tab0_2 : ToldK := addTo tab0_1 52 rodd_e
theorem rodd_h : EntryOK tab0_1 code rodd_n FU 24 52 rodd_e := by
  intro args os t h
  unfold rodd_e at h
  split at h
  · rename_i os0 a0
    cases h
    exact ⟨_, _, fun p => (.bool p), rodd_k, ids_all rfl, fun _ _ => rfl, (congrFun rodd_q _), fun sv os p hp => by
      unfold rodd_k at hp
      split at hp
      · have hp := dTy_ok hp
        split at hp
        · cases hp; exact ⟨rfl, rfl⟩
        · cases hp
      · cases hp⟩
  · cases h
/-! strings.indexFunc -/
noncomputable def sif_L0 (v : Vs) : Option (Vs ⊕ Vs) := sel v.1 [((asBool? (hV v.2 0)).bind fun x0 =>
(cond (decide ((hN v.2 2) < ((hS v.2 1) : List UInt8).length))
((rodd (Utf8.decode ⟨((hS v.2 1) : List UInt8).toArray⟩ (hN v.2 2)).1).bind fun x1 =>
(cond (x1 == x0)
(some (.inr (0, [(.v (.int .i64 (((hN v.2 2) : Nat) : Int)))])))
(some (.inl (0, [(.v (.bool x0)), (.s (hS v.2 1)), (.n ((hN v.2 2) + (Utf8.decode ⟨((hS v.2 1) : List UInt8).toArray⟩ (hN v.2 2)).2))])))))
(some (.inr (1, [])))))]
noncomputable def sif (a0 : List UInt8) (a1 : Bool) : Option (Int) :=
((loopK sif_L0 FU (0, [(.v (.bool a1)), (.s a0), (.n 0)])).bind fun x2 => sel x2.1 [((asInt? .i64 (hV x2.2 0)).bind fun x3 =>
(some (x3))),
(some ((-1)))])
noncomputable def sif_e : List SV → Objs → Option ((β : Type) → (SV → Objs → Option β) → Option β)
  | [.a (.v (.str a0)), .clo 52 [] [], .a (.v (.bool a1))], os => some fun _ K => (sif a0 a1).bind fun p => K (.a (.v (.int .i64 p))) os
  | _, _ => none
noncomputable def sif_k (sv : SV) (os : Objs) : Option (Int) := match sv, os with
  | .a (.v v), [] => dTy (.t1 (.k (.int .i64))) v fun v => (match v with | (.int .i64 r0) => some (r0) | _ => none)
  | _, _ => none
noncomputable def sif_n : FuncId → Nat → Ann := fun f n => match f, n with
  | 95, 0 => ⟨[], [⟨[⟨[.u, .clo 52 [] [], .a (.h (.t1 (.k .bool))), .u, .u, .u, .u, .u, .u, .u, .a (.itr 0), .u, .u, .u, .u, .u, .u, .u, .u, .u, .u], [.iter]⟩], [(.ret, ⟨[.u, .u, .u, .u, .u, .u, .a (.h (.t1 (.k (.int .i64)))), .u, .u, .u, .u, .u, .u, .u, .u, .u, .u, .u, .u, .u, .u], []⟩), ((.ex 0), ⟨[.u, .u, .u, .u, .u, .u, .u, .u, .u, .u, .u, .u, .u, .u, .u, .u, .u, .u, .u, .u, .u], []⟩)]⟩], false⟩
  | _, _ => ⟨[], [], false⟩
theorem sif_q : (fun (a0 : List UInt8) (a1 : Bool) => stN tab0_2 code sif_n FU 24 95 [.a (.v (.str a0)), .clo 52 [] [], .a (.v (.bool a1))] [] sif_k) = (fun (a0 : List UInt8) (a1 : Bool) => sif a0 a1) := by kernel_rfl
noncomputable def tab0_3 : ToldK := addTo tab0_2 95 sif_e
theorem sif_h : EntryOK tab0_2 code sif_n FU 24 95 sif_e := by
  intro args os t h
  unfold sif_e at h
  split at h
  · rename_i os0 a0 a1
    cases h
    exact ⟨_, _, fun p => (.int .i64 p), sif_k, ids_all rfl, fun _ _ => rfl, (congrFun (congrFun sif_q _) _), fun sv os p hp => by
      unfold sif_k at hp
      split at hp
      · have hp := dTy_ok hp
        split at hp
        · cases hp; exact ⟨rfl, rfl⟩
        · cases hp
      · cases hp⟩
  · cases h
/-! strings.IndexFunc -/
noncomputable def sIf (a0 : List UInt8) : Option (Int) :=
((sif a0 true).bind fun x0 =>
(some (x0)))
noncomputable def sIf_e : List SV → Objs → Option ((β : Type) → (SV → Objs → Option β) → Option β)
  | [.a (.v (.str a0)), .clo 52 [] []], os => some fun _ K => (sIf a0).bind fun p => K (.a (.v (.int .i64 p))) os
  | _, _ => none
noncomputable def sIf_k (sv : SV) (os : Objs) : Option (Int) := match sv, os with
  | .a (.v v), [] => dTy (.t1 (.k (.int .i64))) v fun v => (match v with | (.int .i64 r0) => some (r0) | _ => none)
  | _, _ => none
noncomputable def sIf_n : FuncId → Nat → Ann := fun f n => match f, n with
  | _, _ => ⟨[], [], false⟩
theorem sIf_q : (fun (a0 : List UInt8) => stN tab0_3 code sIf_n FU 24 74 [.a (.v (.str a0)), .clo 52 [] []] [] sIf_k) = (fun (a0 : List UInt8) => sIf a0) := by kernel_rfl
noncomputable def tab0_4 : ToldK := addTo tab0_3 74 sIf_e
theorem sIf_h : EntryOK tab0_3 code sIf_n FU 24 74 sIf_e := by
  intro args os t h
  unfold sIf_e at h
  split at h
  · rename_i os0 a0
    cases h
    exact ⟨_, _, fun p => (.int .i64 p), sIf_k, ids_all rfl, fun _ _ => rfl, (congrFun sIf_q _), fun sv os p hp => by
      unfold sIf_k at hp
      split at hp
      · have hp := dTy_ok hp
        split at hp
        · cases hp; exact ⟨rfl, rfl⟩
        · cases hp
      · cases hp⟩
  · cases h
/-! strings.ContainsFunc -/
noncomputable def scf (a0 : List UInt8) : Option (Bool) :=
((sIf a0).bind fun x0 =>
(some ((decide (x0 ≥ 0)))))
noncomputable def scf_e : List SV → Objs → Option ((β : Type) → (SV → Objs → Option β) → Option β)
  | [.a (.v (.str a0)), .clo 52 [] []], os => some fun _ K => (scf a0).bind fun p => K (.a (.v (.bool p))) os
  | _, _ => none
noncomputable def scf_k (sv : SV) (os : Objs) : Option (Bool) := match sv, os with
  | .a (.v v), [] => dTy (.t1 (.k .bool)) v fun v => (match v with | (.bool r0) => some (r0) | _ => none)
  | _, _ => none
noncomputable def scf_n : FuncId → Nat → Ann := fun f n => match f, n with
  | _, _ => ⟨[], [], false⟩
theorem scf_q : (fun (a0 : List UInt8) => stN tab0_4 code scf_n FU 24 51 [.a (.v (.str a0)), .clo 52 [] []] [] scf_k) = (fun (a0 : List UInt8) => scf a0) := by kernel_rfl
noncomputable def tab0_5 : ToldK := addTo tab0_4 51 scf_e
theorem scf_h : EntryOK tab0_4 code scf_n FU 24 51 scf_e := by
  intro args os t h
  unfold scf_e at h
  split at h
  · rename_i os0 a0
    cases h
    exact ⟨_, _, fun p => (.bool p), scf_k, ids_all rfl, fun _ _ => rfl, (congrFun scf_q _), fun sv os p hp => by
      unfold scf_k at hp
      split at hp
      · have hp := dTy_ok hp
        split at hp
        · cases hp; exact ⟨rfl, rfl⟩
        · cases hp
      · cases hp⟩
  · cases h
/-! cubit/rows.Parse -/
noncomputable def rparse_L0 (v : Vs) : Option (Vs ⊕ Vs) := sel v.1 [((asSl? (hV v.2 0)).bind fun x1 =>
((asInt? .i64 (hV v.2 1)).bind fun x2 =>
((asInt? .i64 (hV v.2 2)).bind fun x3 =>
(cond (decide (x3 < x2))
((idxL (x1.getD []) x3).bind fun x4 =>
((asStr? x4).bind fun x5 =>
((rwords x5).bind fun x6 =>
((scf x5).bind fun x7 =>
(cond x7
(cond x7
(some (.inr (0, [(.v (.int .i64 (IntKind.wrap .i64 (x3 + 1)))), (.v (.int .i64 2))])))
(cond (((slLen x6 : Nat) : Int) == 0)
(some (.inl (0, [(.v (.sl x1)), (.v (.int .i64 x2)), (.v (.int .i64 (IntKind.wrap .i64 (x3 + 1))))])))
(some (.inl (1, [(.v (.sl x1)), (.v (.int .i64 x2)), (.v (.int .i64 (IntKind.wrap .i64 (x3 + 1)))), (.l [(.agg [(.int .i64 (IntKind.wrap .i64 (x3 + 1))), (.sl x6)])])])))))
(cond (decide (((slLen x6 : Nat) : Int) > 24))
(some (.inr (0, [(.v (.int .i64 (IntKind.wrap .i64 (x3 + 1)))), (.v (.int .i64 2))])))
(cond (((slLen x6 : Nat) : Int) == 0)
(some (.inl (0, [(.v (.sl x1)), (.v (.int .i64 x2)), (.v (.int .i64 (IntKind.wrap .i64 (x3 + 1))))])))
(some (.inl (1, [(.v (.sl x1)), (.v (.int .i64 x2)), (.v (.int .i64 (IntKind.wrap .i64 (x3 + 1)))), (.l [(.agg [(.int .i64 (IntKind.wrap .i64 (x3 + 1))), (.sl x6)])])]))))))))))
(some (.inr (1, []))))))),
((asSl? (hV v.2 0)).bind fun x8 =>
((asInt? .i64 (hV v.2 1)).bind fun x9 =>
((asInt? .i64 (hV v.2 2)).bind fun x10 =>
(cond (decide (x10 < x9))
((idxL (x8.getD []) x10).bind fun x11 =>
((asStr? x11).bind fun x12 =>
((rwords x12).bind fun x13 =>
((scf x12).bind fun x14 =>
(cond x14
(cond x14
(some (.inr (0, [(.v (.int .i64 (IntKind.wrap .i64 (x10 + 1)))), (.v (.int .i64 2))])))
(cond (((slLen x13 : Nat) : Int) == 0)
(some (.inl (1, [(.v (.sl x8)), (.v (.int .i64 x9)), (.v (.int .i64 (IntKind.wrap .i64 (x10 + 1)))), (.l (hL v.2 3))])))
(cond ((((hL v.2 3).length : Nat) : Int) == 2000)
(some (.inr (0, [(.v (.int .i64 (IntKind.wrap .i64 (x10 + 1)))), (.v (.int .i64 11))])))
(chk ((fits ((hL v.2 3).length + 1)) && true)
(some (.inl (1, [(.v (.sl x8)), (.v (.int .i64 x9)), (.v (.int .i64 (IntKind.wrap .i64 (x10 + 1)))), (.l ((hL v.2 3) ++ [(.agg [(.int .i64 (IntKind.wrap .i64 (x10 + 1))), (.sl x13)])]))])))))))
(cond (decide (((slLen x13 : Nat) : Int) > 24))
(some (.inr (0, [(.v (.int .i64 (IntKind.wrap .i64 (x10 + 1)))), (.v (.int .i64 2))])))
(cond (((slLen x13 : Nat) : Int) == 0)
(some (.inl (1, [(.v (.sl x8)), (.v (.int .i64 x9)), (.v (.int .i64 (IntKind.wrap .i64 (x10 + 1)))), (.l (hL v.2 3))])))
(cond ((((hL v.2 3).length : Nat) : Int) == 2000)
(some (.inr (0, [(.v (.int .i64 (IntKind.wrap .i64 (x10 + 1)))), (.v (.int .i64 11))])))
(chk ((fits ((hL v.2 3).length + 1)) && true)
(some (.inl (1, [(.v (.sl x8)), (.v (.int .i64 x9)), (.v (.int .i64 (IntKind.wrap .i64 (x10 + 1)))), (.l ((hL v.2 3) ++ [(.agg [(.int .i64 (IntKind.wrap .i64 (x10 + 1))), (.sl x13)])]))]))))))))))))
(some (.inr (2, [(.l (hL v.2 3))])))))))]
noncomputable def rparse (a0 : List UInt8) : Option (Option (List V) × Int × Int) :=
(cond (decide ((((a0 : List UInt8).length : Nat) : Int) > 65536))
(some (none, 0, 11))
((spl a0 [10]).bind fun x0 =>
((loopK rparse_L0 FU (0, [(.v (.sl x0)), (.v (.int .i64 ((slLen x0 : Nat) : Int))), (.v (.int .i64 0))])).bind fun x15 => sel x15.1 [((asInt? .i64 (hV x15.2 0)).bind fun x16 =>
((asInt? .i64 (hV x15.2 1)).bind fun x17 =>
(some (none, x16, x17)))),
(some (none, 0, 0)),
(some ((some (hL x15.2 0)), 0, 0))])))
noncomputable def rparse_e : List SV → Objs → Option ((β : Type) → (SV → Objs → Option β) → Option β)
  | [.a (.v (.str a0))], os => some fun _ K => (rparse a0).bind fun p => K (.a (.v (.tup [(.sl p.1), (.int .i64 p.2.1), (.int .i64 p.2.2)]))) os
  | _, _ => none
noncomputable def rparse_k (sv : SV) (os : Objs) : Option (Option (List V) × Int × Int) := match sv, os with
  | .a (.v v), [] => dTy (.tup [(.k .sl), (.k (.int .i64)), (.k (.int .i64))]) v fun v => (match v with | (.tup [(.sl r0), (.int .i64 r1), (.int .i64 r2)]) => some (r0, r1, r2) | _ => none)
  | _, _ => none
noncomputable def rparse_n : FuncId → Nat → Ann := fun f n => match f, n with
  | 34, 0 => ⟨[(18, (.t1 (.k .str)))], [⟨[⟨[.u, .u, .u, .u, .u, .a (.nil), .u, .u, .u, .u, .u, .u, .u, .a (.h (.t1 (.k .sl))), .a (.h (.t1 (.k (.int .i64)))), .a (.h (.t1 (.k (.int .i64)))), .u, .u, .u, .u, .u, .u, .u, .u, .u, .u, .u, .u, .u, .u, .u, .u, .u, .u, .u, .u, .u, .u, .u, .u, .u, .u, .u, .u, .u, .u, .u, .u, .u], []⟩, ⟨[.u, .u, .u, .u, .u, .a (.own 0), .u, .u, .u, .u, .u, .u, .u, .a (.h (.t1 (.k .sl))), .a (.h (.t1 (.k (.int .i64)))), .a (.h (.t1 (.k (.int .i64)))), .u, .u, .u, .u, .u, .u, .u, .u, .u, .u, .u, .u, .u, .u, .u, .u, .u, .u, .u, .u, .u, .u, .u, .u, .u, .u, .u, .u, .u, .u, .u, .u, .u], [.ext 74 2]⟩], [(.ret, ⟨[.u, .u, .a (.nil), .a (.h (.t1 (.k (.int .i64)))), .a (.h (.t1 (.k (.int .i64)))), .u, .u, .u, .u, .u, .u, .u, .u, .u, .u, .u, .u, .u, .u, .u, .u, .u, .u, .u, .u, .u, .u, .u, .u, .u, .u, .u, .u, .u, .u, .u, .u, .u, .u, .u, .u, .u, .u, .u, .u, .u, .u, .u, .u], []⟩), ((.ex 0), ⟨[.u, .u, .u, .u, .u, .a (.nil), .u, .u, .u, .u, .u, .u, .u, .u, .u, .u, .u, .u, .u, .u, .u, .u, .u, .u, .u, .u, .u, .u, .u, .u, .u, .u, .u, .u, .u, .u, .u, .u, .u, .u, .u, .u, .u, .u, .u, .u, .u, .u, .u], []⟩), ((.ex 0), ⟨[.u, .u, .u, .u, .u, .a (.own 0), .u, .u, .u, .u, .u, .u, .u, .u, .u, .u, .u, .u, .u, .u, .u, .u, .u, .u, .u, .u, .u, .u, .u, .u, .u, .u, .u, .u, .u, .u, .u, .u, .u, .u, .u, .u, .u, .u, .u, .u, .u, .u, .u], [.ext 74 2]⟩)]⟩], false⟩
  | _, _ => ⟨[], [], false⟩
theorem rparse_q : (fun (a0 : List UInt8) => stN tab0_5 code rparse_n FU 24 34 [.a (.v (.str a0))] [] rparse_k) = (fun (a0 : List UInt8) => rparse a0) := by kernel_rfl
noncomputable def tab0_6 : ToldK := addTo tab0_5 34 rparse_e
theorem rparse_h : EntryOK tab0_5 code rparse_n FU 24 34 rparse_e := by
  intro args os t h
  unfold rparse_e at h
  split at h
  · rename_i os0 a0
    cases h
    exact ⟨_, _, fun p => (.tup [(.sl p.1), (.int .i64 p.2.1), (.int .i64 p.2.2)]), rparse_k, ids_all rfl, fun _ _ => rfl, (congrFun rparse_q _), fun sv os p hp => by
      unfold rparse_k at hp
      split at hp
      · have hp := dTy_ok hp
        split at hp
        · cases hp; exact ⟨rfl, rfl⟩
        · cases hp
      · cases hp⟩
  · cases h
/-! cubit/gender.cutLeft -/
noncomputable def cutLeft_L1 (v : Vs) : Option (Vs ⊕ Vs) := sel v.1 [((asStr? (hV v.2 0)).bind fun x2 =>
((asStr? (hV v.2 1)).bind fun x3 =>
((asInt? .i64 (hV v.2 2)).bind fun x4 =>
((asInt? .i32 (hV v.2 3)).bind fun x5 =>
((asBool? (hV v.2 4)).bind fun x6 =>
(cond (decide ((hN v.2 8) < ((hS v.2 7) : List UInt8).length))
(cond x6
(some (.inl (0, [(.v (.str x2)), (.v (.str x3)), (.v (.int .i64 x4)), (.v (.int .i32 x5)), (.v (.bool true)), (.s (hS v.2 5)), (.n (hN v.2 6)), (.s (hS v.2 7)), (.n ((hN v.2 8) + (Utf8.decode ⟨((hS v.2 7) : List UInt8).toArray⟩ (hN v.2 8)).2))])))
(some (.inl (0, [(.v (.str x2)), (.v (.str x3)), (.v (.int .i64 x4)), (.v (.int .i32 x5)), (.v (.bool (x5 == (Utf8.decode ⟨((hS v.2 7) : List UInt8).toArray⟩ (hN v.2 8)).1))), (.s (hS v.2 5)), (.n (hN v.2 6)), (.s (hS v.2 7)), (.n ((hN v.2 8) + (Utf8.decode ⟨((hS v.2 7) : List UInt8).toArray⟩ (hN v.2 8)).2))]))))
(some (.inr (0, [(.v (.str x2)), (.v (.str x3)), (.v (.int .i64 x4)), (.v (.bool x6)), (.s (hS v.2 5)), (.n (hN v.2 6))])))))))))]
noncomputable def cutLeft_L0 (v : Vs) : Option (Vs ⊕ Vs) := sel v.1 [((asStr? (hV v.2 0)).bind fun x0 =>
((asStr? (hV v.2 1)).bind fun x1 =>
(cond (decide ((hN v.2 3) < ((hS v.2 2) : List UInt8).length))
((loopK cutLeft_L1 FU (0, [(.v (.str x0)), (.v (.str x1)), (.v (.int .i64 (((hN v.2 3) : Nat) : Int))), (.v (.int .i32 (Utf8.decode ⟨((hS v.2 2) : List UInt8).toArray⟩ (hN v.2 3)).1)), (.v (.bool false)), (.s (hS v.2 2)), (.n ((hN v.2 3) + (Utf8.decode ⟨((hS v.2 2) : List UInt8).toArray⟩ (hN v.2 3)).2)), (.s x1), (.n 0)])).bind fun x7 => sel x7.1 [((asStr? (hV x7.2 0)).bind fun x8 =>
((asStr? (hV x7.2 1)).bind fun x9 =>
((asInt? .i64 (hV x7.2 2)).bind fun x10 =>
((asBool? (hV x7.2 3)).bind fun x11 =>
(cond (!x11)
((cutL (some x10) none x8).bind fun x12 =>
(some (.inr (0, [(.v (.str x12))]))))
(some (.inl (0, [(.v (.str x8)), (.v (.str x9)), (.s (hS x7.2 4)), (.n (hN x7.2 5))]))))))))])
(some (.inr (1, []))))))]
noncomputable def cutLeft (a0 : List UInt8) (a1 : List UInt8) : Option (List UInt8) :=
((loopK cutLeft_L0 FU (0, [(.v (.str a0)), (.v (.str a1)), (.s a0), (.n 0)])).bind fun x13 => sel x13.1 [((asStr? (hV x13.2 0)).bind fun x14 =>
(some (x14))),
(some ([]))])
noncomputable def cutLeft_e : List SV → Objs → Option ((β : Type) → (SV → Objs → Option β) → Option β)
  | [.a (.v (.str a0)), .a (.v (.str a1))], os => some fun _ K => (cutLeft a0 a1).bind fun p => K (.a (.v (.str p))) os
  | _, _ => none
noncomputable def cutLeft_k (sv : SV) (os : Objs) : Option (List UInt8) := match sv, os with
  | .a (.v v), [] => dTy (.t1 (.k .str)) v fun v => (match v with | (.str r0) => some (r0) | _ => none)
  | _, _ => none
noncomputable def cutLeft_n : FuncId → Nat → Ann := fun f n => match f, n with
  | 72, 0 => ⟨[], [⟨[⟨[.a (.h (.t1 (.k .str))), .a (.h (.t1 (.k .str))), .u, .u, .u, .u, .u, .u, .u, .u, .u, .a (.itr 0), .u, .u, .u, .u, .u, .u, .u, .u, .u, .u, .u, .u, .u, .u, .u, .u, .u, .u, .u, .u], [.iter]⟩], [(.ret, ⟨[.u, .u, .u, .u, .a (.h (.t1 (.k .str))), .u, .u, .u, .u, .u, .u, .u, .u, .u, .u, .u, .u, .u, .u, .u, .u, .u, .u, .u, .u, .u, .u, .u, .u, .u, .u, .u], []⟩), ((.ex 0), ⟨[.u, .u, .u, .u, .u, .u, .u, .u, .u, .u, .u, .u, .u, .u, .u, .u, .u, .u, .u, .u, .u, .u, .u, .u, .u, .u, .u, .u, .u, .u, .u, .u], []⟩)]⟩, ⟨[⟨[.a (.h (.t1 (.k .str))), .a (.h (.t1 (.k .str))), .u, .u, .u, .a (.h (.t1 (.k (.int .i64)))), .a (.h (.t1 (.k (.int .i32)))), .a (.h (.t1 (.k .bool))), .u, .u, .u, .a (.itr 0), .u, .u, .u, .u, .u, .a (.itr 1), .u, .u, .u, .u, .u, .u, .u, .u, .u, .u, .u, .u, .u, .u], [.iter, .iter]⟩], [((.ex 2), ⟨[.a (.h (.t1 (.k .str))), .a (.h (.t1 (.k .str))), .u, .u, .u, .a (.h (.t1 (.k (.int .i64)))), .u, .a (.h (.t1 (.k .bool))), .u, .u, .u, .a (.itr 0), .u, .u, .u, .u, .u, .u, .u, .u, .u, .u, .u, .u, .u, .u, .u, .u, .u, .u, .u, .u], [.iter]⟩)]⟩], false⟩
  | _, _ => ⟨[], [], false⟩
theorem cutLeft_q : (fun (a0 : List UInt8) (a1 : List UInt8) => stN tab0_6 code cutLeft_n FU 24 72 [.a (.v (.str a0)), .a (.v (.str a1))] [] cutLeft_k) = (fun (a0 : List UInt8) (a1 : List UInt8) => cutLeft a0 a1) := by kernel_rfl
noncomputable def tab0_7 : ToldK := addTo tab0_6 72 cutLeft_e
theorem cutLeft_h : EntryOK tab0_6 code cutLeft_n FU 24 72 cutLeft_e := by
  intro args os t h
  unfold cutLeft_e at h
  split at h
  · rename_i os0 a0 a1
    cases h
    exact ⟨_, _, fun p => (.str p), cutLeft_k, ids_all rfl, fun _ _ => rfl, (congrFun (congrFun cutLeft_q _) _), fun sv os p hp => by
      unfold cutLeft_k at hp
      split at hp
      · have hp := dTy_ok hp
        split at hp
        · cases hp; exact ⟨rfl, rfl⟩
        · cases hp
      · cases hp⟩
  · cases h
/-! cubit/gender.cutRight -/
noncomputable def cutRight_L1 (v : Vs) : Option (Vs ⊕ Vs) := sel v.1 [((asStr? (hV v.2 0)).bind fun x3 =>
((asStr? (hV v.2 1)).bind fun x4 =>
((asInt? .i32 (hV v.2 2)).bind fun x5 =>
((asInt? .i64 (hV v.2 3)).bind fun x6 =>
((asBool? (hV v.2 4)).bind fun x7 =>
(cond (decide ((hN v.2 6) < ((hS v.2 5) : List UInt8).length))
(cond x7
(some (.inl (0, [(.v (.str x3)), (.v (.str x4)), (.v (.int .i32 x5)), (.v (.int .i64 x6)), (.v (.bool true)), (.s (hS v.2 5)), (.n ((hN v.2 6) + (Utf8.decode ⟨((hS v.2 5) : List UInt8).toArray⟩ (hN v.2 6)).2))])))
(some (.inl (0, [(.v (.str x3)), (.v (.str x4)), (.v (.int .i32 x5)), (.v (.int .i64 x6)), (.v (.bool (x5 == (Utf8.decode ⟨((hS v.2 5) : List UInt8).toArray⟩ (hN v.2 6)).1))), (.s (hS v.2 5)), (.n ((hN v.2 6) + (Utf8.decode ⟨((hS v.2 5) : List UInt8).toArray⟩ (hN v.2 6)).2))]))))
(some (.inr (0, [(.v (.str x3)), (.v (.str x4)), (.v (.int .i64 x6)), (.v (.bool x7))])))))))))]
noncomputable def cutRight_L0 (v : Vs) : Option (Vs ⊕ Vs) := sel v.1 [((asStr? (hV v.2 0)).bind fun x0 =>
((asStr? (hV v.2 1)).bind fun x1 =>
(cond (decide ((((x0 : List UInt8).length : Nat) : Int) > 0))
((dlr x0).bind fun x2 =>
((loopK cutRight_L1 FU (0, [(.v (.str x0)), (.v (.str x1)), (.v (.int .i32 x2.1)), (.v (.int .i64 x2.2)), (.v (.bool false)), (.s x1), (.n 0)])).bind fun x8 => sel x8.1 [((asStr? (hV x8.2 0)).bind fun x9 =>
((asStr? (hV x8.2 1)).bind fun x10 =>
((asInt? .i64 (hV x8.2 2)).bind fun x11 =>
((asBool? (hV x8.2 3)).bind fun x12 =>
(cond (!x12)
(some (.inr (0, [(.v (.str x9))])))
((cutL none (some (IntKind.wrap .i64 ((((x9 : List UInt8).length : Nat) : Int) - x11))) x9).bind fun x13 =>
(some (.inl (0, [(.v (.str x13)), (.v (.str x10))])))))))))]))
(some (.inr (1, [(.v (.str x0))]))))))]
noncomputable def cutRight (a0 : List UInt8) (a1 : List UInt8) : Option (List UInt8) :=
((loopK cutRight_L0 FU (0, [(.v (.str a0)), (.v (.str a1))])).bind fun x14 => sel x14.1 [((asStr? (hV x14.2 0)).bind fun x15 =>
(some (x15))),
((asStr? (hV x14.2 0)).bind fun x16 =>
(some (x16)))])
noncomputable def cutRight_e : List SV → Objs → Option ((β : Type) → (SV → Objs → Option β) → Option β)
  | [.a (.v (.str a0)), .a (.v (.str a1))], os => some fun _ K => (cutRight a0 a1).bind fun p => K (.a (.v (.str p))) os
  | _, _ => none
noncomputable def cutRight_k (sv : SV) (os : Objs) : Option (List UInt8) := match sv, os with
  | .a (.v v), [] => dTy (.t1 (.k .str)) v fun v => (match v with | (.str r0) => some (r0) | _ => none)
  | _, _ => none
noncomputable def cutRight_n : FuncId → Nat → Ann := fun f n => match f, n with
  | 71, 0 => ⟨[], [⟨[⟨[.a (.h (.t1 (.k .str))), .a (.h (.t1 (.k .str))), .u, .u, .u, .u, .u, .u, .u, .u, .u, .u, .u, .u, .u, .u, .u, .u, .u, .u, .u, .u, .u, .u, .u, .u, .u, .u, .u, .u, .u, .u, .u, .u, .u, .u, .u, .u, .u], []⟩], [(.ret, ⟨[.u, .u, .u, .u, .a (.h (.t1 (.k .str))), .u, .u, .u, .u, .u, .u, .u, .u, .u, .u, .u, .u, .u, .u, .u, .u, .u, .u, .u, .u, .u, .u, .u, .u, .u, .u, .u, .u, .u, .u, .u, .u, .u, .u], []⟩), ((.ex 0), ⟨[.a (.h (.t1 (.k .str))), .u, .u, .u, .u, .u, .u, .u, .u, .u, .u, .u, .u, .u, .u, .u, .u, .u, .u, .u, .u, .u, .u, .u, .u, .u, .u, .u, .u, .u, .u, .u, .u, .u, .u, .u, .u, .u, .u], []⟩)]⟩, ⟨[⟨[.a (.h (.t1 (.k .str))), .a (.h (.t1 (.k .str))), .u, .u, .u, .a (.h (.t1 (.k (.int .i32)))), .a (.h (.t1 (.k (.int .i64)))), .a (.h (.t1 (.k .bool))), .u, .u, .u, .u, .u, .u, .u, .u, .u, .u, .u, .a (.itr 0), .u, .u, .u, .u, .u, .u, .u, .u, .u, .u, .u, .u, .u, .u, .u, .u, .u, .u, .u], [.iter]⟩], [((.ex 2), ⟨[.a (.h (.t1 (.k .str))), .a (.h (.t1 (.k .str))), .u, .u, .u, .u, .a (.h (.t1 (.k (.int .i64)))), .a (.h (.t1 (.k .bool))), .u, .u, .u, .u, .u, .u, .u, .u, .u, .u, .u, .u, .u, .u, .u, .u, .u, .u, .u, .u, .u, .u, .u, .u, .u, .u, .u, .u, .u, .u, .u], []⟩)]⟩], false⟩
  | _, _ => ⟨[], [], false⟩
theorem cutRight_q : (fun (a0 : List UInt8) (a1 : List UInt8) => stN tab0_7 code cutRight_n FU 24 71 [.a (.v (.str a0)), .a (.v (.str a1))] [] cutRight_k) = (fun (a0 : List UInt8) (a1 : List UInt8) => cutRight a0 a1) := by kernel_rfl
noncomputable def tab0_8 : ToldK := addTo tab0_7 71 cutRight_e
theorem cutRight_h : EntryOK tab0_7 code cutRight_n FU 24 71 cutRight_e := by
  intro args os t h
  unfold cutRight_e at h
  split at h
  · rename_i os0 a0 a1
    cases h
    exact ⟨_, _, fun p => (.str p), cutRight_k, ids_all rfl, fun _ _ => rfl, (congrFun (congrFun cutRight_q _) _), fun sv os p hp => by
      unfold cutRight_k at hp
      split at hp
      · have hp := dTy_ok hp
        split at hp
        · cases hp; exact ⟨rfl, rfl⟩
        · cases hp
      · cases hp⟩
  · cases h
/-! cubit/gender.of -/
noncomputable def gof (a0 : List UInt8) (a1 : List UInt8) : Option (Bool) :=
(cond (!(a0 == []))
((cutLeft a0 a1).bind fun x0 =>
((cutRight x0 a1).bind fun x1 =>
(some ((x1 == [])))))
(some (false)))
noncomputable def gof_e : List SV → Objs → Option ((β : Type) → (SV → Objs → Option β) → Option β)
  | [.a (.v (.str a0)), .a (.v (.str a1))], os => some fun _ K => (gof a0 a1).bind fun p => K (.a (.v (.bool p))) os
  | _, _ => none
noncomputable def gof_k (sv : SV) (os : Objs) : Option (Bool) := match sv, os with
  | .a (.v v), [] => dTy (.t1 (.k .bool)) v fun v => (match v with | (.bool r0) => some (r0) | _ => none)
  | _, _ => none
noncomputable def gof_n : FuncId → Nat → Ann := fun f n => match f, n with
  | _, _ => ⟨[], [], false⟩
theorem gof_q : (fun (a0 : List UInt8) (a1 : List UInt8) => stN tab0_8 code gof_n FU 24 49 [.a (.v (.str a0)), .a (.v (.str a1))] [] gof_k) = (fun (a0 : List UInt8) (a1 : List UInt8) => gof a0 a1) := by kernel_rfl
noncomputable def tab0_9 : ToldK := addTo tab0_8 49 gof_e
theorem gof_h : EntryOK tab0_8 code gof_n FU 24 49 gof_e := by
  intro args os t h
  unfold gof_e at h
  split at h
  · rename_i os0 a0 a1
    cases h
    exact ⟨_, _, fun p => (.bool p), gof_k, ids_all rfl, fun _ _ => rfl, (congrFun (congrFun gof_q _) _), fun sv os p hp => by
      unfold gof_k at hp
      split at hp
      · have hp := dTy_ok hp
        split at hp
        · cases hp; exact ⟨rfl, rfl⟩
        · cases hp
      · cases hp⟩
  · cases h
/-! cubit/rows.Of -/
noncomputable def rowsOf_L0 (v : Vs) : Option (Vs ⊕ Vs) := sel v.1 [((asStr? (hV v.2 0)).bind fun x0 =>
((asSl? (hV v.2 1)).bind fun x1 =>
((asInt? .i64 (hV v.2 2)).bind fun x2 =>
((asInt? .i64 (hV v.2 3)).bind fun x3 =>
(cond (decide (x3 < x2))
((idxL (x1.getD []) x3).bind fun x4 =>
((asAgg? 2 x4).bind fun x5 =>
((asInt? .i64 (x5.getD 0 .nilp)).bind fun x6 =>
((asSl? (x5.getD 1 .nilp)).bind fun x7 =>
(cond (decide (((slLen x7 : Nat) : Int) > 0))
((idxL (x7.getD []) 0).bind fun x8 =>
((asStr? x8).bind fun x9 =>
(cond (x9 == x0)
((nilS x7).bind fun x10 =>
(cond x10
(some (.inl (1, [(.v (.str x0)), (.v (.sl x1)), (.v (.int .i64 x2)), (.v (.int .i64 (IntKind.wrap .i64 (x3 + 1)))), (.l [(.agg [(.int .i64 x6), (.sl none)])])])))
(chk ((fits (0 + (x7.getD []).length)) && ((x7.getD []).all (okEl 1)))
(some (.inl (1, [(.v (.str x0)), (.v (.sl x1)), (.v (.int .i64 x2)), (.v (.int .i64 (IntKind.wrap .i64 (x3 + 1)))), (.l [(.agg [(.int .i64 x6), (.sl (some ([] ++ (x7.getD []))))])])]))))))
(some (.inl (0, [(.v (.str x0)), (.v (.sl x1)), (.v (.int .i64 x2)), (.v (.int .i64 (IntKind.wrap .i64 (x3 + 1))))]))))))
(some (.inl (0, [(.v (.str x0)), (.v (.sl x1)), (.v (.int .i64 x2)), (.v (.int .i64 (IntKind.wrap .i64 (x3 + 1))))]))))))))
(some (.inr (0, [])))))))),
((asStr? (hV v.2 0)).bind fun x11 =>
((asSl? (hV v.2 1)).bind fun x12 =>
((asInt? .i64 (hV v.2 2)).bind fun x13 =>
((asInt? .i64 (hV v.2 3)).bind fun x14 =>
(cond (decide (x14 < x13))
((idxL (x12.getD []) x14).bind fun x15 =>
((asAgg? 2 x15).bind fun x16 =>
((asInt? .i64 (x16.getD 0 .nilp)).bind fun x17 =>
((asSl? (x16.getD 1 .nilp)).bind fun x18 =>
(cond (decide (((slLen x18 : Nat) : Int) > 0))
((idxL (x18.getD []) 0).bind fun x19 =>
((asStr? x19).bind fun x20 =>
(cond (x20 == x11)
((nilS x18).bind fun x21 =>
(cond x21
(chk ((fits ((hL v.2 4).length + 1)) && true)
(some (.inl (1, [(.v (.str x11)), (.v (.sl x12)), (.v (.int .i64 x13)), (.v (.int .i64 (IntKind.wrap .i64 (x14 + 1)))), (.l ((hL v.2 4) ++ [(.agg [(.int .i64 x17), (.sl none)])]))]))))
(chk ((fits (0 + (x18.getD []).length)) && ((x18.getD []).all (okEl 1)))
(chk ((fits ((hL v.2 4).length + 1)) && true)
(some (.inl (1, [(.v (.str x11)), (.v (.sl x12)), (.v (.int .i64 x13)), (.v (.int .i64 (IntKind.wrap .i64 (x14 + 1)))), (.l ((hL v.2 4) ++ [(.agg [(.int .i64 x17), (.sl (some ([] ++ (x18.getD []))))])]))])))))))
(some (.inl (1, [(.v (.str x11)), (.v (.sl x12)), (.v (.int .i64 x13)), (.v (.int .i64 (IntKind.wrap .i64 (x14 + 1)))), (.l (hL v.2 4))]))))))
(some (.inl (1, [(.v (.str x11)), (.v (.sl x12)), (.v (.int .i64 x13)), (.v (.int .i64 (IntKind.wrap .i64 (x14 + 1)))), (.l (hL v.2 4))]))))))))
(some (.inr (1, [(.l (hL v.2 4))]))))))))]
noncomputable def rowsOf (a0 : Option (List V)) (a1 : List UInt8) : Option (Option (List V)) :=
((loopK rowsOf_L0 FU (0, [(.v (.str a1)), (.v (.sl a0)), (.v (.int .i64 ((slLen a0 : Nat) : Int))), (.v (.int .i64 0))])).bind fun x22 => sel x22.1 [(some (none)),
(some ((some (hL x22.2 0))))])
noncomputable def rowsOf_e : List SV → Objs → Option ((β : Type) → (SV → Objs → Option β) → Option β)
  | [.a (.v (.sl a0)), .a (.v (.str a1))], os => some fun _ K => (rowsOf a0 a1).bind fun p => K (.a (.v (.sl p))) os
  | _, _ => none
noncomputable def rowsOf_k (sv : SV) (os : Objs) : Option (Option (List V)) := match sv, os with
  | .a (.v v), [] => dTy (.t1 (.k .sl)) v fun v => (match v with | (.sl r0) => some (r0) | _ => none)
  | _, _ => none
noncomputable def rowsOf_n : FuncId → Nat → Ann := fun f n => match f, n with
  | 32, 0 => ⟨[(12, (.t1 (.agg [(.int .i64), .sl]))), (21, (.t1 (.k .str)))], [⟨[⟨[.u, .a (.h (.t1 (.k .str))), .u, .u, .u, .a (.nil), .u, .u, .a (.h (.t1 (.k .sl))), .a (.h (.t1 (.k (.int .i64)))), .a (.h (.t1 (.k (.int .i64)))), .u, .u, .u, .u, .u, .u, .u, .u, .u, .u, .u, .u, .u, .u, .u, .u, .u, .u, .u, .u, .u, .u, .u, .u, .u, .u], []⟩, ⟨[.u, .a (.h (.t1 (.k .str))), .u, .u, .u, .a (.own 0), .u, .u, .a (.h (.t1 (.k .sl))), .a (.h (.t1 (.k (.int .i64)))), .a (.h (.t1 (.k (.int .i64)))), .u, .u, .u, .u, .u, .u, .u, .u, .u, .u, .u, .u, .u, .u, .u, .u, .u, .u, .u, .u, .u, .u, .u, .u, .u, .u], [.ext 74 2]⟩], [((.ex 0), ⟨[.u, .u, .u, .u, .u, .a (.nil), .u, .u, .u, .u, .u, .u, .u, .u, .u, .u, .u, .u, .u, .u, .u, .u, .u, .u, .u, .u, .u, .u, .u, .u, .u, .u, .u, .u, .u, .u, .u], []⟩), ((.ex 0), ⟨[.u, .u, .u, .u, .u, .a (.own 0), .u, .u, .u, .u, .u, .u, .u, .u, .u, .u, .u, .u, .u, .u, .u, .u, .u, .u, .u, .u, .u, .u, .u, .u, .u, .u, .u, .u, .u, .u, .u], [.ext 74 2]⟩)]⟩], false⟩
  | _, _ => ⟨[], [], false⟩
theorem rowsOf_q : (fun (a0 : Option (List V)) (a1 : List UInt8) => stN tab0_9 code rowsOf_n FU 24 32 [.a (.v (.sl a0)), .a (.v (.str a1))] [] rowsOf_k) = (fun (a0 : Option (List V)) (a1 : List UInt8) => rowsOf a0 a1) := by kernel_rfl
noncomputable def tab0_10 : ToldK := addTo tab0_9 32 rowsOf_e
theorem rowsOf_h : EntryOK tab0_9 code rowsOf_n FU 24 32 rowsOf_e := by
  intro args os t h
  unfold rowsOf_e at h
  split at h
  · rename_i os0 a0 a1
    cases h
    exact ⟨_, _, fun p => (.sl p), rowsOf_k, ids_all rfl, fun _ _ => rfl, (congrFun (congrFun rowsOf_q _) _), fun sv os p hp => by
      unfold rowsOf_k at hp
      split at hp
      · have hp := dTy_ok hp
        split at hp
        · cases hp; exact ⟨rfl, rfl⟩
        · cases hp
      · cases hp⟩
  · cases h
/-! cubit/gender.Load -/
noncomputable def gload_L0 (v : Vs) : Option (Vs ⊕ Vs) := sel v.1 [((asSl? (hV v.2 0)).bind fun x1 =>
((asInt? .i64 (hV v.2 1)).bind fun x2 =>
((asInt? .i64 (hV v.2 2)).bind fun x3 =>
(cond (decide (x3 < x2))
((idxL (x1.getD []) x3).bind fun x4 =>
((asAgg? 2 x4).bind fun x5 =>
((asInt? .i64 (x5.getD 0 .nilp)).bind fun x6 =>
((asSl? (x5.getD 1 .nilp)).bind fun x7 =>
((cutSl 1 (some 1) none x7).bind fun x8 =>
(cond (((slLen x8 : Nat) : Int) != 3)
(some (.inr (0, [(.v (.pt none)), (.v (.int .i64 x6)), (.v (.int .i64 2))])))
((idxL (x8.getD []) 0).bind fun x9 =>
((asStr? x9).bind fun x10 =>
((gof x10 [97, 98, 99, 100, 101, 102, 103, 104, 105, 106, 107, 108, 109, 110, 111, 112, 113, 114, 115, 116, 117, 118, 119, 120, 121, 122]).bind fun x11 =>
(cond (!x11)
(some (.inr (0, [(.v (.pt none)), (.v (.int .i64 x6)), (.v (.int .i64 2))])))
((idxL (x8.getD []) 0).bind fun x12 =>
((asStr? x12).bind fun x13 =>
(cond (decide ((((x13 : List UInt8).length : Nat) : Int) < 2))
(some (.inr (0, [(.v (.pt none)), (.v (.int .i64 x6)), (.v (.int .i64 2))])))
((idxL (x8.getD []) 0).bind fun x14 =>
((asStr? x14).bind fun x15 =>
(cond (decide ((((x15 : List UInt8).length : Nat) : Int) > 3))
(some (.inr (0, [(.v (.pt none)), (.v (.int .i64 x6)), (.v (.int .i64 2))])))
((idxL (x8.getD []) 1).bind fun x16 =>
((asStr? x16).bind fun x17 =>
((gof x17 [97, 98, 99, 100, 101, 102, 103, 104, 105, 106, 107, 108, 109, 110, 111, 112, 113, 114, 115, 116, 117, 118, 119, 120, 121, 122, 48, 49, 50, 51, 52, 53, 54, 55, 56, 57]).bind fun x18 =>
(cond (!x18)
(some (.inr (0, [(.v (.pt none)), (.v (.int .i64 x6)), (.v (.int .i64 2))])))
((idxL (x8.getD []) 2).bind fun x19 =>
((asStr? x19).bind fun x20 =>
((gof x20 [97, 98, 99, 100, 101, 102, 103, 104, 105, 106, 107, 108, 109, 110, 111, 112, 113, 114, 115, 116, 117, 118, 119, 120, 121, 122, 48, 49, 50, 51, 52, 53, 54, 55, 56, 57]).bind fun x21 =>
(cond (!x21)
(some (.inr (0, [(.v (.pt none)), (.v (.int .i64 x6)), (.v (.int .i64 2))])))
((idxL (x8.getD []) 0).bind fun x22 =>
((asStr? x22).bind fun x23 =>
((idxL (x8.getD []) 1).bind fun x24 =>
((asStr? x24).bind fun x25 =>
((lookE ⟨true, [.s, .s]⟩ (.agg [(.str x23), (.str x25)]) (hM v.2 3)).bind fun x26 =>
((asStr? (x26.getD (.str []))).bind fun x27 =>
(cond (!(x27 == []))
(some (.inr (0, [(.v (.pt none)), (.v (.int .i64 x6)), (.v (.int .i64 10))])))
((idxL (x8.getD []) 2).bind fun x28 =>
((asStr? x28).bind fun x29 =>
(chk (fits ((hM v.2 3).length + 1))
((putE ⟨true, [.s, .s]⟩ (.agg [(.str x23), (.str x25)]) (T2.a (.v (.str x29))) (hM v.2 3)).bind fun x30 =>
(some (.inl (0, [(.v (.sl x1)), (.v (.int .i64 x2)), (.v (.int .i64 (IntKind.wrap .i64 (x3 + 1)))), (.m x30)]))))))))))))))))))))))))))))))))))))))
(some (.inr (1, [(.m (hM v.2 3))])))))))]
noncomputable def gload (a0 : Option (List V)) : Option (Option (List V) × Int × Int) :=
((rowsOf a0 [103, 101, 110, 100, 101, 114]).bind fun x0 =>
((loopK gload_L0 FU (0, [(.v (.sl x0)), (.v (.int .i64 ((slLen x0 : Nat) : Int))), (.v (.int .i64 0)), (.m [])])).bind fun x31 => sel x31.1 [((asPt? (hV x31.2 0)).bind fun x32 =>
((asInt? .i64 (hV x31.2 1)).bind fun x33 =>
((asInt? .i64 (hV x31.2 2)).bind fun x34 =>
(some (x32, x33, x34))))),
((frzE (hM x31.2 0)).bind fun x35 =>
(some ((some [(.mp (some x35))]), 0, 0)))]))
noncomputable def gload_e : List SV → Objs → Option ((β : Type) → (SV → Objs → Option β) → Option β)
  | [.a (.v (.sl a0))], os => some fun _ K => (gload a0).bind fun p => K (.a (.v (.tup [(.pt p.1), (.int .i64 p.2.1), (.int .i64 p.2.2)]))) os
  | _, _ => none
noncomputable def gload_k (sv : SV) (os : Objs) : Option (Option (List V) × Int × Int) := match sv, os with
  | .a (.v v), [] => dTy (.tup [(.k .pt), (.k (.int .i64)), (.k (.int .i64))]) v fun v => (match v with | (.tup [(.pt r0), (.int .i64 r1), (.int .i64 r2)]) => some (r0, r1, r2) | _ => none)
  | _, _ => none
noncomputable def gload_n : FuncId → Nat → Ann := fun f n => match f, n with
  | 11, 0 => ⟨[(17, (.t1 (.agg [(.int .i64), .sl])))], [⟨[⟨[.u, .u, .u, .u, .u, .a (.loc 0 0), .u, .u, .u, .u, .u, .u, .u, .a (.h (.t1 (.k .sl))), .a (.h (.t1 (.k (.int .i64)))), .a (.h (.t1 (.k (.int .i64)))), .u, .u, .u, .u, .u, .u, .u, .u, .u, .u, .u, .u, .u, .u, .u], [.box 77 [.mapr 1], .map]⟩], [(.ret, ⟨[.u, .u, .a (.h (.t1 (.k .pt))), .a (.h (.t1 (.k (.int .i64)))), .a (.h (.t1 (.k (.int .i64)))), .u, .u, .u, .u, .u, .u, .u, .u, .u, .u, .u, .u, .u, .u, .u, .u, .u, .u, .u, .u, .u, .u, .u, .u, .u, .u], []⟩), ((.ex 0), ⟨[.u, .u, .u, .u, .u, .a (.loc 0 0), .u, .u, .u, .u, .u, .u, .u, .u, .u, .u, .u, .u, .u, .u, .u, .u, .u, .u, .u, .u, .u, .u, .u, .u, .u], [.box 77 [.mapr 1], .map]⟩)]⟩], true⟩
  | 33, 3 => ⟨[(11, (.t1 (.k .str))), (18, (.t1 (.k .str))), (25, (.t1 (.k .str))), (32, (.t1 (.k .str))), (39, (.t1 (.k .str))), (45, (.t1 (.k .str))), (48, (.t1 (.k .str))), (56, (.t1 (.k .str))), (64, (.t1 (.k .str)))], [], false⟩
  | _, _ => ⟨[], [], false⟩
theorem gload_q : (fun (a0 : Option (List V)) => stN tab0_10 code gload_n FU 24 11 [.a (.v (.sl a0))] [] gload_k) = (fun (a0 : Option (List V)) => gload a0) := by kernel_rfl
noncomputable def tab0_11 : ToldK := addTo tab0_10 11 gload_e
theorem gload_h : EntryOK tab0_10 code gload_n FU 24 11 gload_e := by
  intro args os t h
  unfold gload_e at h
  split at h
  · rename_i os0 a0
    cases h
    exact ⟨_, _, fun p => (.tup [(.pt p.1), (.int .i64 p.2.1), (.int .i64 p.2.2)]), gload_k, ids_all rfl, fun _ _ => rfl, (congrFun gload_q _), fun sv os p hp => by
      unfold gload_k at hp
      split at hp
      · have hp := dTy_ok hp
        split at hp
        · cases hp; exact ⟨rfl, rfl⟩
        · cases hp
      · cases hp⟩
  · cases h
/-! (*cubit/gender.Genders).Atom -/
noncomputable def gatom (a0 : Option (List V)) (a1 : List UInt8) (a2 : List UInt8) (a3 : List UInt8) (a4 : Int) : Option (List UInt8) :=
((asPtr? 1 (.pt a0)).bind fun x0 =>
((asMp? (x0.getD 0 .nilp)).bind fun x1 =>
((lookM ⟨true, [.s, .s]⟩ (.agg [(.str a1), (.str a3)]) x1).bind fun x2 =>
((asStr? (x2.getD (.str []))).bind fun x3 =>
(some (x3))))))
noncomputable def gatom_e : List SV → Objs → Option ((β : Type) → (SV → Objs → Option β) → Option β)
  | [.a (.v (.pt a0)), .a (.v (.str a1)), .a (.v (.agg [(.str a2), (.str a3), (.int .i64 a4)]))], os => some fun _ K => (gatom a0 a1 a2 a3 a4).bind fun p => K (.a (.v (.str p))) os
  | _, _ => none
noncomputable def gatom_k (sv : SV) (os : Objs) : Option (List UInt8) := match sv, os with
  | .a (.v v), [] => dTy (.t1 (.k .str)) v fun v => (match v with | (.str r0) => some (r0) | _ => none)
  | _, _ => none
noncomputable def gatom_n : FuncId → Nat → Ann := fun f n => match f, n with
  | 12, 0 => ⟨[(8, (.ptr [.mp])), (9, (.ptr [.mp])), (15, (.t1 (.k .str)))], [], false⟩
  | _, _ => ⟨[], [], false⟩
theorem gatom_q : (fun (a0 : Option (List V)) (a1 : List UInt8) (a2 : List UInt8) (a3 : List UInt8) (a4 : Int) => stN tab0_11 code gatom_n FU 24 12 [.a (.v (.pt a0)), .a (.v (.str a1)), .a (.v (.agg [(.str a2), (.str a3), (.int .i64 a4)]))] [] gatom_k) = (fun (a0 : Option (List V)) (a1 : List UInt8) (a2 : List UInt8) (a3 : List UInt8) (a4 : Int) => gatom a0 a1 a2 a3 a4) := by kernel_rfl
noncomputable def tab0_12 : ToldK := addTo tab0_11 12 gatom_e
theorem gatom_h : EntryOK tab0_11 code gatom_n FU 24 12 gatom_e := by
  intro args os t h
  unfold gatom_e at h
  split at h
  · rename_i os0 a0 a1 a2 a3 a4
    cases h
    exact ⟨_, _, fun p => (.str p), gatom_k, ids_all rfl, fun _ _ => rfl, (congrFun (congrFun (congrFun (congrFun (congrFun gatom_q _) _) _) _) _), fun sv os p hp => by
      unfold gatom_k at hp
      split at hp
      · have hp := dTy_ok hp
        split at hp
        · cases hp; exact ⟨rfl, rfl⟩
        · cases hp
      · cases hp⟩
  · cases h
/-! cubit/cubitlaw23.load -/
noncomputable def lload (a0 : List UInt8) : Option (Option (List V) × Int × Int) :=
((rparse a0).bind fun x0 =>
(cond (x0.2.2 != 0)
(some (none, 0, x0.2.2))
((gload x0.1).bind fun x1 =>
(some (x1.1, x1.2.1, x1.2.2)))))
noncomputable def lload_e : List SV → Objs → Option ((β : Type) → (SV → Objs → Option β) → Option β)
  | [.a (.v (.str a0))], os => some fun _ K => (lload a0).bind fun p => K (.a (.v (.tup [(.pt p.1), (.int .i64 p.2.1), (.int .i64 p.2.2)]))) os
  | _, _ => none
noncomputable def lload_k (sv : SV) (os : Objs) : Option (Option (List V) × Int × Int) := match sv, os with
  | .a (.v v), [] => dTy (.tup [(.k .pt), (.k (.int .i64)), (.k (.int .i64))]) v fun v => (match v with | (.tup [(.pt r0), (.int .i64 r1), (.int .i64 r2)]) => some (r0, r1, r2) | _ => none)
  | _, _ => none
noncomputable def lload_n : FuncId → Nat → Ann := fun f n => match f, n with
  | _, _ => ⟨[], [], false⟩
theorem lload_q : (fun (a0 : List UInt8) => stN tab0_12 code lload_n FU 24 13 [.a (.v (.str a0))] [] lload_k) = (fun (a0 : List UInt8) => lload a0) := by kernel_rfl
noncomputable def tab0_13 : ToldK := addTo tab0_12 13 lload_e
theorem lload_h : EntryOK tab0_12 code lload_n FU 24 13 lload_e := by
  intro args os t h
  unfold lload_e at h
  split at h
  · rename_i os0 a0
    cases h
    exact ⟨_, _, fun p => (.tup [(.pt p.1), (.int .i64 p.2.1), (.int .i64 p.2.2)]), lload_k, ids_all rfl, fun _ _ => rfl, (congrFun lload_q _), fun sv os p hp => by
      unfold lload_k at hp
      split at hp
      · have hp := dTy_ok hp
        split at hp
        · cases hp; exact ⟨rfl, rfl⟩
        · cases hp
      · cases hp⟩
  · cases h
/-! cubit/cubitlaw23.heavy -/
noncomputable def heavy_L1 (v : Vs) : Option (Vs ⊕ Vs) := sel v.1 [((asSl? (hV v.2 0)).bind fun x6 =>
((asInt? .i64 (hV v.2 1)).bind fun x7 =>
((asInt? .i64 (hV v.2 2)).bind fun x8 =>
((idxL (x6.getD []) x7).bind fun x9 =>
((asAgg? 2 x9).bind fun x10 =>
((asInt? .i64 (x10.getD 0 .nilp)).bind fun x11 =>
((asSl? (x10.getD 1 .nilp)).bind fun x12 =>
(cond (decide (x8 < ((slLen x12 : Nat) : Int)))
((idxL (x6.getD []) x7).bind fun x13 =>
((asAgg? 2 x13).bind fun x14 =>
((asInt? .i64 (x14.getD 0 .nilp)).bind fun x15 =>
((asSl? (x14.getD 1 .nilp)).bind fun x16 =>
((idxL (x16.getD []) x8).bind fun x17 =>
((asStr? x17).bind fun x18 =>
(cond (decide ((((x18 : List UInt8).length : Nat) : Int) > 120))
(some (.inr (0, [(.v (.bool true))])))
(some (.inl (0, [(.v (.sl x6)), (.v (.int .i64 x7)), (.v (.int .i64 (IntKind.wrap .i64 (x8 + 1))))]))))))))))
(some (.inr (1, [(.v (.sl x6)), (.v (.int .i64 x7))])))))))))))]
noncomputable def heavy_L0 (v : Vs) : Option (Vs ⊕ Vs) := sel v.1 [((asSl? (hV v.2 0)).bind fun x0 =>
((asInt? .i64 (hV v.2 1)).bind fun x1 =>
(cond (decide (x1 < ((slLen x0 : Nat) : Int)))
((idxL (x0.getD []) x1).bind fun x2 =>
((asAgg? 2 x2).bind fun x3 =>
((asInt? .i64 (x3.getD 0 .nilp)).bind fun x4 =>
((asSl? (x3.getD 1 .nilp)).bind fun x5 =>
(cond (decide (((slLen x5 : Nat) : Int) > 30))
(some (.inr (0, [(.v (.bool true))])))
((loopK heavy_L1 FU (0, [(.v (.sl x0)), (.v (.int .i64 x1)), (.v (.int .i64 0))])).bind fun x19 => sel x19.1 [((asBool? (hV x19.2 0)).bind fun x20 =>
(some (.inr (0, [(.v (.bool x20))])))),
((asSl? (hV x19.2 0)).bind fun x21 =>
((asInt? .i64 (hV x19.2 1)).bind fun x22 =>
(some (.inl (0, [(.v (.sl x21)), (.v (.int .i64 (IntKind.wrap .i64 (x22 + 1))))])))))]))))))
(some (.inr (1, []))))))]
noncomputable def heavy (a0 : Option (List V)) : Option (Bool) :=
(cond (decide (((slLen a0 : Nat) : Int) > 60))
(some (true))
((loopK heavy_L0 FU (0, [(.v (.sl a0)), (.v (.int .i64 0))])).bind fun x23 => sel x23.1 [((asBool? (hV x23.2 0)).bind fun x24 =>
(some (x24))),
(some (false))]))
noncomputable def heavy_e : List SV → Objs → Option ((β : Type) → (SV → Objs → Option β) → Option β)
  | [.a (.v (.sl a0))], os => some fun _ K => (heavy a0).bind fun p => K (.a (.v (.bool p))) os
  | _, _ => none
noncomputable def heavy_k (sv : SV) (os : Objs) : Option (Bool) := match sv, os with
  | .a (.v v), [] => dTy (.t1 (.k .bool)) v fun v => (match v with | (.bool r0) => some (r0) | _ => none)
  | _, _ => none
noncomputable def heavy_n : FuncId → Nat → Ann := fun f n => match f, n with
  | 10, 0 => ⟨[(16, (.t1 (.agg [(.int .i64), .sl]))), (24, (.t1 (.agg [(.int .i64), .sl]))), (33, (.t1 (.agg [(.int .i64), .sl]))), (37, (.t1 (.k .str)))], [⟨[⟨[.a (.h (.t1 (.k .sl))), .u, .u, .a (.h (.t1 (.k (.int .i64)))), .u, .u, .u, .u, .u, .u, .u, .u, .u, .u, .u, .u, .u, .u, .u, .u, .u, .u, .u, .u, .u, .u, .u, .u, .u, .u, .u, .u, .u, .u, .u, .u, .u, .u, .u, .u, .u], []⟩], [(.ret, ⟨[.u, .u, .a (.h (.t1 (.k .bool))), .u, .u, .u, .u, .u, .u, .u, .u, .u, .u, .u, .u, .u, .u, .u, .u, .u, .u, .u, .u, .u, .u, .u, .u, .u, .u, .u, .u, .u, .u, .u, .u, .u, .u, .u, .u, .u, .u], []⟩), ((.ex 0), ⟨[.u, .u, .u, .u, .u, .u, .u, .u, .u, .u, .u, .u, .u, .u, .u, .u, .u, .u, .u, .u, .u, .u, .u, .u, .u, .u, .u, .u, .u, .u, .u, .u, .u, .u, .u, .u, .u, .u, .u, .u, .u], []⟩)]⟩, ⟨[⟨[.a (.h (.t1 (.k .sl))), .u, .u, .a (.h (.t1 (.k (.int .i64)))), .a (.h (.t1 (.k (.int .i64)))), .u, .u, .u, .u, .u, .u, .u, .u, .u, .u, .u, .u, .u, .u, .u, .u, .u, .u, .u, .u, .u, .u, .u, .u, .u, .u, .u, .u, .u, .u, .u, .u, .u, .u, .u, .u], []⟩], [(.ret, ⟨[.u, .u, .a (.h (.t1 (.k .bool))), .u, .u, .u, .u, .u, .u, .u, .u, .u, .u, .u, .u, .u, .u, .u, .u, .u, .u, .u, .u, .u, .u, .u, .u, .u, .u, .u, .u, .u, .u, .u, .u, .u, .u, .u, .u, .u, .u], []⟩), ((.ex 2), ⟨[.a (.h (.t1 (.k .sl))), .u, .u, .a (.h (.t1 (.k (.int .i64)))), .u, .u, .u, .u, .u, .u, .u, .u, .u, .u, .u, .u, .u, .u, .u, .u, .u, .u, .u, .u, .u, .u, .u, .u, .u, .u, .u, .u, .u, .u, .u, .u, .u, .u, .u, .u, .u], []⟩)]⟩], false⟩
  | _, _ => ⟨[], [], false⟩
theorem heavy_q : (fun (a0 : Option (List V)) => stN tab0_13 code heavy_n FU 24 10 [.a (.v (.sl a0))] [] heavy_k) = (fun (a0 : Option (List V)) => heavy a0) := by kernel_rfl
noncomputable def tab0_14 : ToldK := addTo tab0_13 10 heavy_e
theorem heavy_h : EntryOK tab0_13 code heavy_n FU 24 10 heavy_e := by
  intro args os t h
  unfold heavy_e at h
  split at h
  · rename_i os0 a0
    cases h
    exact ⟨_, _, fun p => (.bool p), heavy_k, ids_all rfl, fun _ _ => rfl, (congrFun heavy_q _), fun sv os p hp => by
      unfold heavy_k at hp
      split at hp
      · have hp := dTy_ok hp
        split at hp
        · cases hp; exact ⟨rfl, rfl⟩
        · cases hp
      · cases hp⟩
  · cases h
/-! cubit/cubitlaw23.awake -/
noncomputable def awake23  : Option (Bool) :=
((lload [103, 101, 110, 100, 101, 114, 32, 100, 101, 32, 109, 101, 116, 101, 114, 32, 109, 97, 115, 99, 117, 108, 105, 110, 101]).bind fun x0 =>
(cond (x0.2.2 == 0)
(cond (!(x0.1.isNone))
((gatom x0.1 [100, 101] [107, 105, 108, 111] [109, 101, 116, 101, 114] 2).bind fun x1 =>
(some ((x1 == [109, 97, 115, 99, 117, 108, 105, 110, 101]))))
(some (false)))
(some (false))))
noncomputable def awake23_e : List SV → Objs → Option ((β : Type) → (SV → Objs → Option β) → Option β)
  | [], os => some fun _ K => (awake23).bind fun p => K (.a (.v (.bool p))) os
  | _, _ => none
noncomputable def awake23_k (sv : SV) (os : Objs) : Option (Bool) := match sv, os with
  | .a (.v v), [] => dTy (.t1 (.k .bool)) v fun v => (match v with | (.bool r0) => some (r0) | _ => none)
  | _, _ => none
noncomputable def awake23_n : FuncId → Nat → Ann := fun f n => match f, n with
  | _, _ => ⟨[], [], false⟩
theorem awake23_q : (stN tab0_14 code awake23_n FU 24 9 [] [] awake23_k) = (awake23) := by kernel_rfl
noncomputable def tab0_15 : ToldK := addTo tab0_14 9 awake23_e
theorem awake23_h : EntryOK tab0_14 code awake23_n FU 24 9 awake23_e := by
  intro args os t h
  unfold awake23_e at h
  split at h
  · rename_i os0 
    cases h
    exact ⟨_, _, fun p => (.bool p), awake23_k, ids_all rfl, fun _ _ => rfl, awake23_q, fun sv os p hp => by
      unfold awake23_k at hp
      split at hp
      · have hp := dTy_ok hp
        split at hp
        · cases hp; exact ⟨rfl, rfl⟩
        · cases hp
      · cases hp⟩
  · cases h
/-! cubit/cubitlaw23.GenderName -/
noncomputable def gname (a0 : Option (List V)) (a1 : List UInt8) (a2 : List UInt8) (a3 : List UInt8) (a4 : Int) (a5 : List UInt8) (a6 : Int) : Option (Bool) :=
((awake23 ).bind fun x0 =>
(cond (!x0)
(some (false))
((heavy a0).bind fun x1 =>
(cond x1
(some (true))
((gload a0).bind fun x2 =>
(cond (x2.2.2 != 0)
(some ((x2.2.2 != 0)))
(cond (x2.1.isNone)
(some ((x2.2.2 != 0)))
((gatom x2.1 a1 a2 a3 a4).bind fun x3 =>
((gatom x2.1 a1 a5 a3 a6).bind fun x4 =>
(some ((x3 == x4))))))))))))
noncomputable def gname_e : List SV → Objs → Option ((β : Type) → (SV → Objs → Option β) → Option β)
  | [.a (.v (.sl a0)), .a (.v (.str a1)), .a (.v (.agg [(.str a2), (.str a3), (.int .i64 a4)])), .a (.v (.str a5)), .a (.v (.int .i64 a6))], os => some fun _ K => (gname a0 a1 a2 a3 a4 a5 a6).bind fun p => K (.a (.v (.bool p))) os
  | _, _ => none
noncomputable def gname_k (sv : SV) (os : Objs) : Option (Bool) := match sv, os with
  | .a (.v v), [] => dTy (.t1 (.k .bool)) v fun v => (match v with | (.bool r0) => some (r0) | _ => none)
  | _, _ => none
noncomputable def gname_n : FuncId → Nat → Ann := fun f n => match f, n with
  | _, _ => ⟨[], [], false⟩
theorem gname_q : (fun (a0 : Option (List V)) (a1 : List UInt8) (a2 : List UInt8) (a3 : List UInt8) (a4 : Int) (a5 : List UInt8) (a6 : Int) => stN tab0_15 code gname_n FU 24 3 [.a (.v (.sl a0)), .a (.v (.str a1)), .a (.v (.agg [(.str a2), (.str a3), (.int .i64 a4)])), .a (.v (.str a5)), .a (.v (.int .i64 a6))] [] gname_k) = (fun (a0 : Option (List V)) (a1 : List UInt8) (a2 : List UInt8) (a3 : List UInt8) (a4 : Int) (a5 : List UInt8) (a6 : Int) => gname a0 a1 a2 a3 a4 a5 a6) := by kernel_rfl
noncomputable def tab0_16 : ToldK := addTo tab0_15 3 gname_e
theorem gname_h : EntryOK tab0_15 code gname_n FU 24 3 gname_e := by
  intro args os t h
  unfold gname_e at h
  split at h
  · rename_i os0 a0 a1 a2 a3 a4 a5 a6
    cases h
    exact ⟨_, _, fun p => (.bool p), gname_k, ids_all rfl, fun _ _ => rfl, (congrFun (congrFun (congrFun (congrFun (congrFun (congrFun (congrFun gname_q _) _) _) _) _) _) _), fun sv os p hp => by
      unfold gname_k at hp
      split at hp
      · have hp := dTy_ok hp
        split at hp
        · cases hp; exact ⟨rfl, rfl⟩
        · cases hp
      · cases hp⟩
  · cases h
/-! cubit/region.cutLeft -/
noncomputable def rcutLeft_L1 (v : Vs) : Option (Vs ⊕ Vs) := sel v.1 [((asStr? (hV v.2 0)).bind fun x2 =>
((asStr? (hV v.2 1)).bind fun x3 =>
((asInt? .i64 (hV v.2 2)).bind fun x4 =>
((asInt? .i32 (hV v.2 3)).bind fun x5 =>
((asBool? (hV v.2 4)).bind fun x6 =>
(cond (decide ((hN v.2 8) < ((hS v.2 7) : List UInt8).length))
(cond x6
(some (.inl (0, [(.v (.str x2)), (.v (.str x3)), (.v (.int .i64 x4)), (.v (.int .i32 x5)), (.v (.bool true)), (.s (hS v.2 5)), (.n (hN v.2 6)), (.s (hS v.2 7)), (.n ((hN v.2 8) + (Utf8.decode ⟨((hS v.2 7) : List UInt8).toArray⟩ (hN v.2 8)).2))])))
(some (.inl (0, [(.v (.str x2)), (.v (.str x3)), (.v (.int .i64 x4)), (.v (.int .i32 x5)), (.v (.bool (x5 == (Utf8.decode ⟨((hS v.2 7) : List UInt8).toArray⟩ (hN v.2 8)).1))), (.s (hS v.2 5)), (.n (hN v.2 6)), (.s (hS v.2 7)), (.n ((hN v.2 8) + (Utf8.decode ⟨((hS v.2 7) : List UInt8).toArray⟩ (hN v.2 8)).2))]))))
(some (.inr (0, [(.v (.str x2)), (.v (.str x3)), (.v (.int .i64 x4)), (.v (.bool x6)), (.s (hS v.2 5)), (.n (hN v.2 6))])))))))))]
noncomputable def rcutLeft_L0 (v : Vs) : Option (Vs ⊕ Vs) := sel v.1 [((asStr? (hV v.2 0)).bind fun x0 =>
((asStr? (hV v.2 1)).bind fun x1 =>
(cond (decide ((hN v.2 3) < ((hS v.2 2) : List UInt8).length))
((loopK rcutLeft_L1 FU (0, [(.v (.str x0)), (.v (.str x1)), (.v (.int .i64 (((hN v.2 3) : Nat) : Int))), (.v (.int .i32 (Utf8.decode ⟨((hS v.2 2) : List UInt8).toArray⟩ (hN v.2 3)).1)), (.v (.bool false)), (.s (hS v.2 2)), (.n ((hN v.2 3) + (Utf8.decode ⟨((hS v.2 2) : List UInt8).toArray⟩ (hN v.2 3)).2)), (.s x1), (.n 0)])).bind fun x7 => sel x7.1 [((asStr? (hV x7.2 0)).bind fun x8 =>
((asStr? (hV x7.2 1)).bind fun x9 =>
((asInt? .i64 (hV x7.2 2)).bind fun x10 =>
((asBool? (hV x7.2 3)).bind fun x11 =>
(cond (!x11)
((cutL (some x10) none x8).bind fun x12 =>
(some (.inr (0, [(.v (.str x12))]))))
(some (.inl (0, [(.v (.str x8)), (.v (.str x9)), (.s (hS x7.2 4)), (.n (hN x7.2 5))]))))))))])
(some (.inr (1, []))))))]
noncomputable def rcutLeft (a0 : List UInt8) (a1 : List UInt8) : Option (List UInt8) :=
((loopK rcutLeft_L0 FU (0, [(.v (.str a0)), (.v (.str a1)), (.s a0), (.n 0)])).bind fun x13 => sel x13.1 [((asStr? (hV x13.2 0)).bind fun x14 =>
(some (x14))),
(some ([]))])
noncomputable def rcutLeft_e : List SV → Objs → Option ((β : Type) → (SV → Objs → Option β) → Option β)
  | [.a (.v (.str a0)), .a (.v (.str a1))], os => some fun _ K => (rcutLeft a0 a1).bind fun p => K (.a (.v (.str p))) os
  | _, _ => none
noncomputable def rcutLeft_k (sv : SV) (os : Objs) : Option (List UInt8) := match sv, os with
  | .a (.v v), [] => dTy (.t1 (.k .str)) v fun v => (match v with | (.str r0) => some (r0) | _ => none)
  | _, _ => none
noncomputable def rcutLeft_n : FuncId → Nat → Ann := fun f n => match f, n with
  | 77, 0 => ⟨[], [⟨[⟨[.a (.h (.t1 (.k .str))), .a (.h (.t1 (.k .str))), .u, .u, .u, .u, .u, .u, .u, .u, .u, .a (.itr 0), .u, .u, .u, .u, .u, .u, .u, .u, .u, .u, .u, .u, .u, .u, .u, .u, .u, .u, .u, .u], [.iter]⟩], [(.ret, ⟨[.u, .u, .u, .u, .a (.h (.t1 (.k .str))), .u, .u, .u, .u, .u, .u, .u, .u, .u, .u, .u, .u, .u, .u, .u, .u, .u, .u, .u, .u, .u, .u, .u, .u, .u, .u, .u], []⟩), ((.ex 0), ⟨[.u, .u, .u, .u, .u, .u, .u, .u, .u, .u, .u, .u, .u, .u, .u, .u, .u, .u, .u, .u, .u, .u, .u, .u, .u, .u, .u, .u, .u, .u, .u, .u], []⟩)]⟩, ⟨[⟨[.a (.h (.t1 (.k .str))), .a (.h (.t1 (.k .str))), .u, .u, .u, .a (.h (.t1 (.k (.int .i64)))), .a (.h (.t1 (.k (.int .i32)))), .a (.h (.t1 (.k .bool))), .u, .u, .u, .a (.itr 0), .u, .u, .u, .u, .u, .a (.itr 1), .u, .u, .u, .u, .u, .u, .u, .u, .u, .u, .u, .u, .u, .u], [.iter, .iter]⟩], [((.ex 2), ⟨[.a (.h (.t1 (.k .str))), .a (.h (.t1 (.k .str))), .u, .u, .u, .a (.h (.t1 (.k (.int .i64)))), .u, .a (.h (.t1 (.k .bool))), .u, .u, .u, .a (.itr 0), .u, .u, .u, .u, .u, .u, .u, .u, .u, .u, .u, .u, .u, .u, .u, .u, .u, .u, .u, .u], [.iter]⟩)]⟩], false⟩
  | _, _ => ⟨[], [], false⟩
theorem rcutLeft_q : (fun (a0 : List UInt8) (a1 : List UInt8) => stN tab0_16 code rcutLeft_n FU 24 77 [.a (.v (.str a0)), .a (.v (.str a1))] [] rcutLeft_k) = (fun (a0 : List UInt8) (a1 : List UInt8) => rcutLeft a0 a1) := by kernel_rfl
noncomputable def tab0_17 : ToldK := addTo tab0_16 77 rcutLeft_e
theorem rcutLeft_h : EntryOK tab0_16 code rcutLeft_n FU 24 77 rcutLeft_e := by
  intro args os t h
  unfold rcutLeft_e at h
  split at h
  · rename_i os0 a0 a1
    cases h
    exact ⟨_, _, fun p => (.str p), rcutLeft_k, ids_all rfl, fun _ _ => rfl, (congrFun (congrFun rcutLeft_q _) _), fun sv os p hp => by
      unfold rcutLeft_k at hp
      split at hp
      · have hp := dTy_ok hp
        split at hp
        · cases hp; exact ⟨rfl, rfl⟩
        · cases hp
      · cases hp⟩
  · cases h
/-! cubit/region.cutRight -/
noncomputable def rcutRight_L1 (v : Vs) : Option (Vs ⊕ Vs) := sel v.1 [((asStr? (hV v.2 0)).bind fun x3 =>
((asStr? (hV v.2 1)).bind fun x4 =>
((asInt? .i32 (hV v.2 2)).bind fun x5 =>
((asInt? .i64 (hV v.2 3)).bind fun x6 =>
((asBool? (hV v.2 4)).bind fun x7 =>
(cond (decide ((hN v.2 6) < ((hS v.2 5) : List UInt8).length))
(cond x7
(some (.inl (0, [(.v (.str x3)), (.v (.str x4)), (.v (.int .i32 x5)), (.v (.int .i64 x6)), (.v (.bool true)), (.s (hS v.2 5)), (.n ((hN v.2 6) + (Utf8.decode ⟨((hS v.2 5) : List UInt8).toArray⟩ (hN v.2 6)).2))])))
(some (.inl (0, [(.v (.str x3)), (.v (.str x4)), (.v (.int .i32 x5)), (.v (.int .i64 x6)), (.v (.bool (x5 == (Utf8.decode ⟨((hS v.2 5) : List UInt8).toArray⟩ (hN v.2 6)).1))), (.s (hS v.2 5)), (.n ((hN v.2 6) + (Utf8.decode ⟨((hS v.2 5) : List UInt8).toArray⟩ (hN v.2 6)).2))]))))
(some (.inr (0, [(.v (.str x3)), (.v (.str x4)), (.v (.int .i64 x6)), (.v (.bool x7))])))))))))]
noncomputable def rcutRight_L0 (v : Vs) : Option (Vs ⊕ Vs) := sel v.1 [((asStr? (hV v.2 0)).bind fun x0 =>
((asStr? (hV v.2 1)).bind fun x1 =>
(cond (decide ((((x0 : List UInt8).length : Nat) : Int) > 0))
((dlr x0).bind fun x2 =>
((loopK rcutRight_L1 FU (0, [(.v (.str x0)), (.v (.str x1)), (.v (.int .i32 x2.1)), (.v (.int .i64 x2.2)), (.v (.bool false)), (.s x1), (.n 0)])).bind fun x8 => sel x8.1 [((asStr? (hV x8.2 0)).bind fun x9 =>
((asStr? (hV x8.2 1)).bind fun x10 =>
((asInt? .i64 (hV x8.2 2)).bind fun x11 =>
((asBool? (hV x8.2 3)).bind fun x12 =>
(cond (!x12)
(some (.inr (0, [(.v (.str x9))])))
((cutL none (some (IntKind.wrap .i64 ((((x9 : List UInt8).length : Nat) : Int) - x11))) x9).bind fun x13 =>
(some (.inl (0, [(.v (.str x13)), (.v (.str x10))])))))))))]))
(some (.inr (1, [(.v (.str x0))]))))))]
noncomputable def rcutRight (a0 : List UInt8) (a1 : List UInt8) : Option (List UInt8) :=
((loopK rcutRight_L0 FU (0, [(.v (.str a0)), (.v (.str a1))])).bind fun x14 => sel x14.1 [((asStr? (hV x14.2 0)).bind fun x15 =>
(some (x15))),
((asStr? (hV x14.2 0)).bind fun x16 =>
(some (x16)))])
noncomputable def rcutRight_e : List SV → Objs → Option ((β : Type) → (SV → Objs → Option β) → Option β)
  | [.a (.v (.str a0)), .a (.v (.str a1))], os => some fun _ K => (rcutRight a0 a1).bind fun p => K (.a (.v (.str p))) os
  | _, _ => none
noncomputable def rcutRight_k (sv : SV) (os : Objs) : Option (List UInt8) := match sv, os with
  | .a (.v v), [] => dTy (.t1 (.k .str)) v fun v => (match v with | (.str r0) => some (r0) | _ => none)
  | _, _ => none
noncomputable def rcutRight_n : FuncId → Nat → Ann := fun f n => match f, n with
  | 76, 0 => ⟨[], [⟨[⟨[.a (.h (.t1 (.k .str))), .a (.h (.t1 (.k .str))), .u, .u, .u, .u, .u, .u, .u, .u, .u, .u, .u, .u, .u, .u, .u, .u, .u, .u, .u, .u, .u, .u, .u, .u, .u, .u, .u, .u, .u, .u, .u, .u, .u, .u, .u, .u, .u], []⟩], [(.ret, ⟨[.u, .u, .u, .u, .a (.h (.t1 (.k .str))), .u, .u, .u, .u, .u, .u, .u, .u, .u, .u, .u, .u, .u, .u, .u, .u, .u, .u, .u, .u, .u, .u, .u, .u, .u, .u, .u, .u, .u, .u, .u, .u, .u, .u], []⟩), ((.ex 0), ⟨[.a (.h (.t1 (.k .str))), .u, .u, .u, .u, .u, .u, .u, .u, .u, .u, .u, .u, .u, .u, .u, .u, .u, .u, .u, .u, .u, .u, .u, .u, .u, .u, .u, .u, .u, .u, .u, .u, .u, .u, .u, .u, .u, .u], []⟩)]⟩, ⟨[⟨[.a (.h (.t1 (.k .str))), .a (.h (.t1 (.k .str))), .u, .u, .u, .a (.h (.t1 (.k (.int .i32)))), .a (.h (.t1 (.k (.int .i64)))), .a (.h (.t1 (.k .bool))), .u, .u, .u, .u, .u, .u, .u, .u, .u, .u, .u, .a (.itr 0), .u, .u, .u, .u, .u, .u, .u, .u, .u, .u, .u, .u, .u, .u, .u, .u, .u, .u, .u], [.iter]⟩], [((.ex 2), ⟨[.a (.h (.t1 (.k .str))), .a (.h (.t1 (.k .str))), .u, .u, .u, .u, .a (.h (.t1 (.k (.int .i64)))), .a (.h (.t1 (.k .bool))), .u, .u, .u, .u, .u, .u, .u, .u, .u, .u, .u, .u, .u, .u, .u, .u, .u, .u, .u, .u, .u, .u, .u, .u, .u, .u, .u, .u, .u, .u, .u], []⟩)]⟩], false⟩
  | _, _ => ⟨[], [], false⟩
theorem rcutRight_q : (fun (a0 : List UInt8) (a1 : List UInt8) => stN tab0_17 code rcutRight_n FU 24 76 [.a (.v (.str a0)), .a (.v (.str a1))] [] rcutRight_k) = (fun (a0 : List UInt8) (a1 : List UInt8) => rcutRight a0 a1) := by kernel_rfl
noncomputable def tab0_18 : ToldK := addTo tab0_17 76 rcutRight_e
theorem rcutRight_h : EntryOK tab0_17 code rcutRight_n FU 24 76 rcutRight_e := by
  intro args os t h
  unfold rcutRight_e at h
  split at h
  · rename_i os0 a0 a1
    cases h
    exact ⟨_, _, fun p => (.str p), rcutRight_k, ids_all rfl, fun _ _ => rfl, (congrFun (congrFun rcutRight_q _) _), fun sv os p hp => by
      unfold rcutRight_k at hp
      split at hp
      · have hp := dTy_ok hp
        split at hp
        · cases hp; exact ⟨rfl, rfl⟩
        · cases hp
      · cases hp⟩
  · cases h
/-! cubit/region.of -/
noncomputable def rof (a0 : List UInt8) (a1 : List UInt8) (a2 : Int) (a3 : Int) : Option (Bool) :=
(cond (decide ((((a0 : List UInt8).length : Nat) : Int) ≥ a2))
(cond (decide ((((a0 : List UInt8).length : Nat) : Int) ≤ a3))
((rcutLeft a0 a1).bind fun x0 =>
((rcutRight x0 a1).bind fun x1 =>
(some ((x1 == [])))))
(some (false)))
(some (false)))
noncomputable def rof_e : List SV → Objs → Option ((β : Type) → (SV → Objs → Option β) → Option β)
  | [.a (.v (.str a0)), .a (.v (.str a1)), .a (.v (.int .i64 a2)), .a (.v (.int .i64 a3))], os => some fun _ K => (rof a0 a1 a2 a3).bind fun p => K (.a (.v (.bool p))) os
  | _, _ => none
noncomputable def rof_k (sv : SV) (os : Objs) : Option (Bool) := match sv, os with
  | .a (.v v), [] => dTy (.t1 (.k .bool)) v fun v => (match v with | (.bool r0) => some (r0) | _ => none)
  | _, _ => none
noncomputable def rof_n : FuncId → Nat → Ann := fun f n => match f, n with
  | _, _ => ⟨[], [], false⟩
theorem rof_q : (fun (a0 : List UInt8) (a1 : List UInt8) (a2 : Int) (a3 : Int) => stN tab0_18 code rof_n FU 24 55 [.a (.v (.str a0)), .a (.v (.str a1)), .a (.v (.int .i64 a2)), .a (.v (.int .i64 a3))] [] rof_k) = (fun (a0 : List UInt8) (a1 : List UInt8) (a2 : Int) (a3 : Int) => rof a0 a1 a2 a3) := by kernel_rfl
noncomputable def tab0_19 : ToldK := addTo tab0_18 55 rof_e
theorem rof_h : EntryOK tab0_18 code rof_n FU 24 55 rof_e := by
  intro args os t h
  unfold rof_e at h
  split at h
  · rename_i os0 a0 a1 a2 a3
    cases h
    exact ⟨_, _, fun p => (.bool p), rof_k, ids_all rfl, fun _ _ => rfl, (congrFun (congrFun (congrFun (congrFun rof_q _) _) _) _), fun sv os p hp => by
      unfold rof_k at hp
      split at hp
      · have hp := dTy_ok hp
        split at hp
        · cases hp; exact ⟨rfl, rfl⟩
        · cases hp
      · cases hp⟩
  · cases h
/-! cubit/region.place -/
noncomputable def rplace (a0 : List UInt8) : Option (Bool) :=
((rof a0 [65, 66, 67, 68, 69, 70, 71, 72, 73, 74, 75, 76, 77, 78, 79, 80, 81, 82, 83, 84, 85, 86, 87, 88, 89, 90] 2 2).bind fun x0 =>
(cond x0
(some (true))
((rof a0 [48, 49, 50, 51, 52, 53, 54, 55, 56, 57] 3 3).bind fun x1 =>
(some (x1)))))
noncomputable def rplace_e : List SV → Objs → Option ((β : Type) → (SV → Objs → Option β) → Option β)
  | [.a (.v (.str a0))], os => some fun _ K => (rplace a0).bind fun p => K (.a (.v (.bool p))) os
  | _, _ => none
noncomputable def rplace_k (sv : SV) (os : Objs) : Option (Bool) := match sv, os with
  | .a (.v v), [] => dTy (.t1 (.k .bool)) v fun v => (match v with | (.bool r0) => some (r0) | _ => none)
  | _, _ => none
noncomputable def rplace_n : FuncId → Nat → Ann := fun f n => match f, n with
  | _, _ => ⟨[], [], false⟩
theorem rplace_q : (fun (a0 : List UInt8) => stN tab0_19 code rplace_n FU 24 37 [.a (.v (.str a0))] [] rplace_k) = (fun (a0 : List UInt8) => rplace a0) := by kernel_rfl
noncomputable def tab0_20 : ToldK := addTo tab0_19 37 rplace_e
theorem rplace_h : EntryOK tab0_19 code rplace_n FU 24 37 rplace_e := by
  intro args os t h
  unfold rplace_e at h
  split at h
  · rename_i os0 a0
    cases h
    exact ⟨_, _, fun p => (.bool p), rplace_k, ids_all rfl, fun _ _ => rfl, (congrFun rplace_q _), fun sv os p hp => by
      unfold rplace_k at hp
      split at hp
      · have hp := dTy_ok hp
        split at hp
        · cases hp; exact ⟨rfl, rfl⟩
        · cases hp
      · cases hp⟩
  · cases h
/-! slices.Index[[]string,string] -/
noncomputable def sidx_L0 (v : Vs) : Option (Vs ⊕ Vs) := sel v.1 [((asSl? (hV v.2 0)).bind fun x0 =>
((asStr? (hV v.2 1)).bind fun x1 =>
((asInt? .i64 (hV v.2 2)).bind fun x2 =>
((asInt? .i64 (hV v.2 3)).bind fun x3 =>
(cond (decide (x3 < x2))
((idxL (x0.getD []) x3).bind fun x4 =>
((asStr? x4).bind fun x5 =>
(cond (x1 == x5)
(some (.inr (0, [(.v (.int .i64 x3))])))
(some (.inl (0, [(.v (.sl x0)), (.v (.str x1)), (.v (.int .i64 x2)), (.v (.int .i64 (IntKind.wrap .i64 (x3 + 1))))]))))))
(some (.inr (1, []))))))))]
noncomputable def sidx (a0 : Option (List V)) (a1 : List UInt8) : Option (Int) :=
((loopK sidx_L0 FU (0, [(.v (.sl a0)), (.v (.str a1)), (.v (.int .i64 ((slLen a0 : Nat) : Int))), (.v (.int .i64 0))])).bind fun x6 => sel x6.1 [((asInt? .i64 (hV x6.2 0)).bind fun x7 =>
(some (x7))),
(some ((-1)))])
noncomputable def sidx_e : List SV → Objs → Option ((β : Type) → (SV → Objs → Option β) → Option β)
  | [.a (.v (.sl a0)), .a (.v (.str a1))], os => some fun _ K => (sidx a0 a1).bind fun p => K (.a (.v (.int .i64 p))) os
  | _, _ => none
noncomputable def sidx_k (sv : SV) (os : Objs) : Option (Int) := match sv, os with
  | .a (.v v), [] => dTy (.t1 (.k (.int .i64))) v fun v => (match v with | (.int .i64 r0) => some (r0) | _ => none)
  | _, _ => none
noncomputable def sidx_n : FuncId → Nat → Ann := fun f n => match f, n with
  | 56, 0 => ⟨[(14, (.t1 (.k .str)))], [⟨[⟨[.a (.h (.t1 (.k .sl))), .a (.h (.t1 (.k .str))), .u, .u, .u, .u, .u, .a (.h (.t1 (.k (.int .i64)))), .a (.h (.t1 (.k (.int .i64)))), .u, .u, .u, .u, .u, .u, .u, .u, .u, .u], []⟩], [(.ret, ⟨[.u, .u, .u, .u, .a (.h (.t1 (.k (.int .i64)))), .u, .u, .u, .u, .u, .u, .u, .u, .u, .u, .u, .u, .u, .u], []⟩), ((.ex 0), ⟨[.u, .u, .u, .u, .u, .u, .u, .u, .u, .u, .u, .u, .u, .u, .u, .u, .u, .u, .u], []⟩)]⟩], false⟩
  | _, _ => ⟨[], [], false⟩
theorem sidx_q : (fun (a0 : Option (List V)) (a1 : List UInt8) => stN tab0_20 code sidx_n FU 24 56 [.a (.v (.sl a0)), .a (.v (.str a1))] [] sidx_k) = (fun (a0 : Option (List V)) (a1 : List UInt8) => sidx a0 a1) := by kernel_rfl
noncomputable def tab0_21 : ToldK := addTo tab0_20 56 sidx_e
theorem sidx_h : EntryOK tab0_20 code sidx_n FU 24 56 sidx_e := by
  intro args os t h
  unfold sidx_e at h
  split at h
  · rename_i os0 a0 a1
    cases h
    exact ⟨_, _, fun p => (.int .i64 p), sidx_k, ids_all rfl, fun _ _ => rfl, (congrFun (congrFun sidx_q _) _), fun sv os p hp => by
      unfold sidx_k at hp
      split at hp
      · have hp := dTy_ok hp
        split at hp
        · cases hp; exact ⟨rfl, rfl⟩
        · cases hp
      · cases hp⟩
  · cases h
/-! slices.Contains[[]string,string] -/
noncomputable def scont (a0 : Option (List V)) (a1 : List UInt8) : Option (Bool) :=
((sidx a0 a1).bind fun x0 =>
(some ((decide (x0 ≥ 0)))))
noncomputable def scont_e : List SV → Objs → Option ((β : Type) → (SV → Objs → Option β) → Option β)
  | [.a (.v (.sl a0)), .a (.v (.str a1))], os => some fun _ K => (scont a0 a1).bind fun p => K (.a (.v (.bool p))) os
  | _, _ => none
noncomputable def scont_k (sv : SV) (os : Objs) : Option (Bool) := match sv, os with
  | .a (.v v), [] => dTy (.t1 (.k .bool)) v fun v => (match v with | (.bool r0) => some (r0) | _ => none)
  | _, _ => none
noncomputable def scont_n : FuncId → Nat → Ann := fun f n => match f, n with
  | _, _ => ⟨[], [], false⟩
theorem scont_q : (fun (a0 : Option (List V)) (a1 : List UInt8) => stN tab0_21 code scont_n FU 24 38 [.a (.v (.sl a0)), .a (.v (.str a1))] [] scont_k) = (fun (a0 : Option (List V)) (a1 : List UInt8) => scont a0 a1) := by kernel_rfl
noncomputable def tab0_22 : ToldK := addTo tab0_21 38 scont_e
theorem scont_h : EntryOK tab0_21 code scont_n FU 24 38 scont_e := by
  intro args os t h
  unfold scont_e at h
  split at h
  · rename_i os0 a0 a1
    cases h
    exact ⟨_, _, fun p => (.bool p), scont_k, ids_all rfl, fun _ _ => rfl, (congrFun (congrFun scont_q _) _), fun sv os p hp => by
      unfold scont_k at hp
      split at hp
      · have hp := dTy_ok hp
        split at hp
        · cases hp; exact ⟨rfl, rfl⟩
        · cases hp
      · cases hp⟩
  · cases h
/-! (*cubit/region.World).region$1 -/
noncomputable def rreg1 (a0 : List UInt8) : Option (Bool) :=
((rplace a0).bind fun x0 =>
(some ((!x0))))
noncomputable def rreg1_e : List SV → Objs → Option ((β : Type) → (SV → Objs → Option β) → Option β)
  | [.a (.v (.str a0))], os => some fun _ K => (rreg1 a0).bind fun p => K (.a (.v (.bool p))) os
  | _, _ => none
noncomputable def rreg1_k (sv : SV) (os : Objs) : Option (Bool) := match sv, os with
  | .a (.v v), [] => dTy (.t1 (.k .bool)) v fun v => (match v with | (.bool r0) => some (r0) | _ => none)
  | _, _ => none
noncomputable def rreg1_n : FuncId → Nat → Ann := fun f n => match f, n with
  | _, _ => ⟨[], [], false⟩
theorem rreg1_q : (fun (a0 : List UInt8) => stN tab0_22 code rreg1_n FU 24 54 [.a (.v (.str a0))] [] rreg1_k) = (fun (a0 : List UInt8) => rreg1 a0) := by kernel_rfl
noncomputable def tab0_23 : ToldK := addTo tab0_22 54 rreg1_e
theorem rreg1_h : EntryOK tab0_22 code rreg1_n FU 24 54 rreg1_e := by
  intro args os t h
  unfold rreg1_e at h
  split at h
  · rename_i os0 a0
    cases h
    exact ⟨_, _, fun p => (.bool p), rreg1_k, ids_all rfl, fun _ _ => rfl, (congrFun rreg1_q _), fun sv os p hp => by
      unfold rreg1_k at hp
      split at hp
      · have hp := dTy_ok hp
        split at hp
        · cases hp; exact ⟨rfl, rfl⟩
        · cases hp
      · cases hp⟩
  · cases h
/-! slices.IndexFunc[[]string,string] -/
noncomputable def sixf_L0 (v : Vs) : Option (Vs ⊕ Vs) := sel v.1 [((asSl? (hV v.2 0)).bind fun x0 =>
((asInt? .i64 (hV v.2 1)).bind fun x1 =>
((asInt? .i64 (hV v.2 2)).bind fun x2 =>
(cond (decide (x2 < x1))
((idxL (x0.getD []) x2).bind fun x3 =>
((asStr? x3).bind fun x4 =>
((rreg1 x4).bind fun x5 =>
(cond x5
(some (.inr (0, [(.v (.int .i64 x2))])))
(some (.inl (0, [(.v (.sl x0)), (.v (.int .i64 x1)), (.v (.int .i64 (IntKind.wrap .i64 (x2 + 1))))])))))))
(some (.inr (1, [])))))))]
noncomputable def sixf (a0 : Option (List V)) : Option (Int) :=
((loopK sixf_L0 FU (0, [(.v (.sl a0)), (.v (.int .i64 ((slLen a0 : Nat) : Int))), (.v (.int .i64 0))])).bind fun x6 => sel x6.1 [((asInt? .i64 (hV x6.2 0)).bind fun x7 =>
(some (x7))),
(some ((-1)))])
noncomputable def sixf_e : List SV → Objs → Option ((β : Type) → (SV → Objs → Option β) → Option β)
  | [.a (.v (.sl a0)), .clo 54 [] []], os => some fun _ K => (sixf a0).bind fun p => K (.a (.v (.int .i64 p))) os
  | _, _ => none
noncomputable def sixf_k (sv : SV) (os : Objs) : Option (Int) := match sv, os with
  | .a (.v v), [] => dTy (.t1 (.k (.int .i64))) v fun v => (match v with | (.int .i64 r0) => some (r0) | _ => none)
  | _, _ => none
noncomputable def sixf_n : FuncId → Nat → Ann := fun f n => match f, n with
  | 75, 0 => ⟨[(14, (.t1 (.k .str)))], [⟨[⟨[.a (.h (.t1 (.k .sl))), .clo 54 [] [], .u, .u, .u, .u, .u, .a (.h (.t1 (.k (.int .i64)))), .a (.h (.t1 (.k (.int .i64)))), .u, .u, .u, .u, .u, .u, .u, .u, .u, .u], []⟩], [(.ret, ⟨[.u, .u, .u, .u, .a (.h (.t1 (.k (.int .i64)))), .u, .u, .u, .u, .u, .u, .u, .u, .u, .u, .u, .u, .u, .u], []⟩), ((.ex 0), ⟨[.u, .u, .u, .u, .u, .u, .u, .u, .u, .u, .u, .u, .u, .u, .u, .u, .u, .u, .u], []⟩)]⟩], false⟩
  | _, _ => ⟨[], [], false⟩
theorem sixf_q : (fun (a0 : Option (List V)) => stN tab0_23 code sixf_n FU 24 75 [.a (.v (.sl a0)), .clo 54 [] []] [] sixf_k) = (fun (a0 : Option (List V)) => sixf a0) := by kernel_rfl
noncomputable def tab0_24 : ToldK := addTo tab0_23 75 sixf_e
theorem sixf_h : EntryOK tab0_23 code sixf_n FU 24 75 sixf_e := by
  intro args os t h
  unfold sixf_e at h
  split at h
  · rename_i os0 a0
    cases h
    exact ⟨_, _, fun p => (.int .i64 p), sixf_k, ids_all rfl, fun _ _ => rfl, (congrFun sixf_q _), fun sv os p hp => by
      unfold sixf_k at hp
      split at hp
      · have hp := dTy_ok hp
        split at hp
        · cases hp; exact ⟨rfl, rfl⟩
        · cases hp
      · cases hp⟩
  · cases h
/-! slices.ContainsFunc[[]string,string] -/
noncomputable def scof (a0 : Option (List V)) : Option (Bool) :=
((sixf a0).bind fun x0 =>
(some ((decide (x0 ≥ 0)))))
noncomputable def scof_e : List SV → Objs → Option ((β : Type) → (SV → Objs → Option β) → Option β)
  | [.a (.v (.sl a0)), .clo 54 [] []], os => some fun _ K => (scof a0).bind fun p => K (.a (.v (.bool p))) os
  | _, _ => none
noncomputable def scof_k (sv : SV) (os : Objs) : Option (Bool) := match sv, os with
  | .a (.v v), [] => dTy (.t1 (.k .bool)) v fun v => (match v with | (.bool r0) => some (r0) | _ => none)
  | _, _ => none
noncomputable def scof_n : FuncId → Nat → Ann := fun f n => match f, n with
  | _, _ => ⟨[], [], false⟩
theorem scof_q : (fun (a0 : Option (List V)) => stN tab0_24 code scof_n FU 24 53 [.a (.v (.sl a0)), .clo 54 [] []] [] scof_k) = (fun (a0 : Option (List V)) => scof a0) := by kernel_rfl
noncomputable def tab0_25 : ToldK := addTo tab0_24 53 scof_e
theorem scof_h : EntryOK tab0_24 code scof_n FU 24 53 scof_e := by
  intro args os t h
  unfold scof_e at h
  split at h
  · rename_i os0 a0
    cases h
    exact ⟨_, _, fun p => (.bool p), scof_k, ids_all rfl, fun _ _ => rfl, (congrFun scof_q _), fun sv os p hp => by
      unfold scof_k at hp
      split at hp
      · have hp := dTy_ok hp
        split at hp
        · cases hp; exact ⟨rfl, rfl⟩
        · cases hp
      · cases hp⟩
  · cases h
/-! (*cubit/region.World).Chain -/
noncomputable def rchain_L0 (v : Vs) : Option (Vs ⊕ Vs) := sel v.1 [((asPt? (hV v.2 0)).bind fun x0 =>
((asStr? (hV v.2 1)).bind fun x1 =>
((rplace x1).bind fun x2 =>
(cond x2
(cond (!(x1 == [48, 48, 49]))
((asPtr? 2 (.pt x0)).bind fun x3 =>
((asMp? (x3.getD 0 .nilp)).bind fun x4 =>
((asMp? (x3.getD 1 .nilp)).bind fun x5 =>
((lookM ⟨false, [.s]⟩ (.str x1) x4).bind fun x6 =>
((asStr? (x6.getD (.str []))).bind fun x7 =>
(some (.inl (1, [(.v (.pt x0)), (.v (.str x7)), (.l [(.str x1)])]))))))))
(some (.inr (0, []))))
(some (.inr (0, []))))))),
((asPt? (hV v.2 0)).bind fun x8 =>
((asStr? (hV v.2 1)).bind fun x9 =>
((rplace x9).bind fun x10 =>
(cond x10
(cond (!(x9 == [48, 48, 49]))
(chk ((fits ((hL v.2 2).length + 1)) && true)
((asPtr? 2 (.pt x8)).bind fun x11 =>
((asMp? (x11.getD 0 .nilp)).bind fun x12 =>
((asMp? (x11.getD 1 .nilp)).bind fun x13 =>
((lookM ⟨false, [.s]⟩ (.str x9) x12).bind fun x14 =>
((asStr? (x14.getD (.str []))).bind fun x15 =>
(some (.inl (1, [(.v (.pt x8)), (.v (.str x15)), (.l ((hL v.2 2) ++ [(.str x9)]))])))))))))
(some (.inr (1, [(.l (hL v.2 2))]))))
(some (.inr (1, [(.l (hL v.2 2))])))))))]
noncomputable def rchain (a0 : Option (List V)) (a1 : List UInt8) : Option (Option (List V)) :=
((loopK rchain_L0 FU (0, [(.v (.pt a0)), (.v (.str a1))])).bind fun x16 => sel x16.1 [(some ((some [(.str [48, 48, 49])]))),
(chk ((fits ((hL x16.2 0).length + 1)) && true)
(some ((some ((hL x16.2 0) ++ [(.str [48, 48, 49])])))))])
noncomputable def rchain_e : List SV → Objs → Option ((β : Type) → (SV → Objs → Option β) → Option β)
  | [.a (.v (.pt a0)), .a (.v (.str a1))], os => some fun _ K => (rchain a0 a1).bind fun p => K (.a (.v (.sl p))) os
  | _, _ => none
noncomputable def rchain_k (sv : SV) (os : Objs) : Option (Option (List V)) := match sv, os with
  | .a (.v v), [] => dTy (.t1 (.k .sl)) v fun v => (match v with | (.sl r0) => some (r0) | _ => none)
  | _, _ => none
noncomputable def rchain_n : FuncId → Nat → Ann := fun f n => match f, n with
  | 20, 0 => ⟨[(13, (.ptr [.mp, .mp])), (14, (.ptr [.mp, .mp])), (17, (.t1 (.k .str)))], [⟨[⟨[.a (.h (.t1 (.k .pt))), .a (.h (.t1 (.k .str))), .u, .u, .u, .a (.nil), .u, .u, .u, .u, .u, .u, .u, .u, .u, .u, .u, .u, .u, .u, .u, .u, .u, .u, .u], []⟩, ⟨[.a (.h (.t1 (.k .pt))), .a (.h (.t1 (.k .str))), .u, .u, .u, .a (.own 0), .u, .u, .u, .u, .u, .u, .u, .u, .u, .u, .u, .u, .u, .u, .u, .u, .u, .u, .u], [.ext 9 1]⟩], [((.ex 0), ⟨[.u, .u, .u, .u, .u, .a (.nil), .u, .u, .u, .u, .u, .u, .u, .u, .u, .u, .u, .u, .u, .u, .u, .u, .u, .u, .u], []⟩), ((.ex 0), ⟨[.u, .u, .u, .u, .u, .a (.own 0), .u, .u, .u, .u, .u, .u, .u, .u, .u, .u, .u, .u, .u, .u, .u, .u, .u, .u, .u], [.ext 9 1]⟩)]⟩], false⟩
  | _, _ => ⟨[], [], false⟩
theorem rchain_q : (fun (a0 : Option (List V)) (a1 : List UInt8) => stN tab0_25 code rchain_n FU 24 20 [.a (.v (.pt a0)), .a (.v (.str a1))] [] rchain_k) = (fun (a0 : Option (List V)) (a1 : List UInt8) => rchain a0 a1) := by kernel_rfl
noncomputable def tab0_26 : ToldK := addTo tab0_25 20 rchain_e
theorem rchain_h : EntryOK tab0_25 code rchain_n FU 24 20 rchain_e := by
  intro args os t h
  unfold rchain_e at h
  split at h
  · rename_i os0 a0 a1
    cases h
    exact ⟨_, _, fun p => (.sl p), rchain_k, ids_all rfl, fun _ _ => rfl, (congrFun (congrFun rchain_q _) _), fun sv os p hp => by
      unfold rchain_k at hp
      split at hp
      · have hp := dTy_ok hp
        split at hp
        · cases hp; exact ⟨rfl, rfl⟩
        · cases hp
      · cases hp⟩
  · cases h
/-! (*cubit/region.World).Within -/
noncomputable def rwithin (a0 : Option (List V)) (a1 : List UInt8) (a2 : List UInt8) : Option (Bool) :=
((rchain a0 a1).bind fun x0 =>
((scont x0 a2).bind fun x1 =>
(some (x1))))
noncomputable def rwithin_e : List SV → Objs → Option ((β : Type) → (SV → Objs → Option β) → Option β)
  | [.a (.v (.pt a0)), .a (.v (.str a1)), .a (.v (.str a2))], os => some fun _ K => (rwithin a0 a1 a2).bind fun p => K (.a (.v (.bool p))) os
  | _, _ => none
noncomputable def rwithin_k (sv : SV) (os : Objs) : Option (Bool) := match sv, os with
  | .a (.v v), [] => dTy (.t1 (.k .bool)) v fun v => (match v with | (.bool r0) => some (r0) | _ => none)
  | _, _ => none
noncomputable def rwithin_n : FuncId → Nat → Ann := fun f n => match f, n with
  | _, _ => ⟨[], [], false⟩
theorem rwithin_q : (fun (a0 : Option (List V)) (a1 : List UInt8) (a2 : List UInt8) => stN tab0_26 code rwithin_n FU 24 22 [.a (.v (.pt a0)), .a (.v (.str a1)), .a (.v (.str a2))] [] rwithin_k) = (fun (a0 : Option (List V)) (a1 : List UInt8) (a2 : List UInt8) => rwithin a0 a1 a2) := by kernel_rfl
noncomputable def tab0_27 : ToldK := addTo tab0_26 22 rwithin_e
theorem rwithin_h : EntryOK tab0_26 code rwithin_n FU 24 22 rwithin_e := by
  intro args os t h
  unfold rwithin_e at h
  split at h
  · rename_i os0 a0 a1 a2
    cases h
    exact ⟨_, _, fun p => (.bool p), rwithin_k, ids_all rfl, fun _ _ => rfl, (congrFun (congrFun (congrFun rwithin_q _) _) _), fun sv os p hp => by
      unfold rwithin_k at hp
      split at hp
      · have hp := dTy_ok hp
        split at hp
        · cases hp; exact ⟨rfl, rfl⟩
        · cases hp
      · cases hp⟩
  · cases h
/-! cubit/region.Load -/
noncomputable def rload_L2 (v : Vs) : Option (Vs ⊕ Vs) := sel v.1 [((asStr? (hV v.2 0)).bind fun x26 =>
((asInt? .i64 (hV v.2 3)).bind fun x27 =>
((asSl? (hV v.2 4)).bind fun x28 =>
((rplace x26).bind fun x29 =>
(cond x29
(cond (!(x26 == [48, 48, 49]))
((lookE ⟨false, [.s]⟩ (.str x26) (hM v.2 1)).bind fun x30 =>
((asStr? (x30.getD (.str []))).bind fun x31 =>
(some (.inl (1, [(.v (.str x31)), (.m (hM v.2 1)), (.m (hM v.2 2)), (.v (.int .i64 x27)), (.v (.sl x28)), (.l [(.str x26)])])))))
(some (.inr (0, [(.m (hM v.2 1)), (.m (hM v.2 2)), (.v (.int .i64 x27)), (.v (.sl x28))]))))
(some (.inr (0, [(.m (hM v.2 1)), (.m (hM v.2 2)), (.v (.int .i64 x27)), (.v (.sl x28))])))))))),
((asStr? (hV v.2 0)).bind fun x32 =>
((asInt? .i64 (hV v.2 3)).bind fun x33 =>
((asSl? (hV v.2 4)).bind fun x34 =>
((rplace x32).bind fun x35 =>
(cond x35
(cond (!(x32 == [48, 48, 49]))
(chk ((fits ((hL v.2 5).length + 1)) && true)
((lookE ⟨false, [.s]⟩ (.str x32) (hM v.2 1)).bind fun x36 =>
((asStr? (x36.getD (.str []))).bind fun x37 =>
(some (.inl (1, [(.v (.str x37)), (.m (hM v.2 1)), (.m (hM v.2 2)), (.v (.int .i64 x33)), (.v (.sl x34)), (.l ((hL v.2 5) ++ [(.str x32)]))]))))))
(some (.inr (1, [(.m (hM v.2 1)), (.m (hM v.2 2)), (.v (.int .i64 x33)), (.v (.sl x34)), (.l (hL v.2 5))]))))
(some (.inr (1, [(.m (hM v.2 1)), (.m (hM v.2 2)), (.v (.int .i64 x33)), (.v (.sl x34)), (.l (hL v.2 5))]))))))))]
noncomputable def rload_L1 (v : Vs) : Option (Vs ⊕ Vs) := sel v.1 [((asSl? (hV v.2 0)).bind fun x14 =>
((asSl? (hV v.2 1)).bind fun x15 =>
((asInt? .i64 (hV v.2 2)).bind fun x16 =>
((asInt? .i64 (hV v.2 3)).bind fun x17 =>
((asInt? .i64 (hV v.2 6)).bind fun x18 =>
((asSl? (hV v.2 7)).bind fun x19 =>
(cond (decide (x17 < x16))
((idxL (x15.getD []) x17).bind fun x20 =>
((asStr? x20).bind fun x21 =>
((lookE ⟨false, [.s]⟩ (.str x21) (hM v.2 4)).bind fun x22 =>
((asStr? (x22.getD (.str []))).bind fun x23 =>
(cond (!(x23 == []))
(some (.inr (0, [(.v (.int .i64 10)), (.m (hM v.2 4)), (.m (hM v.2 5)), (.v (.int .i64 x18)), (.v (.sl x19))])))
((idxL (x14.getD []) 0).bind fun x24 =>
((asStr? x24).bind fun x25 =>
((loopK rload_L2 FU (0, [(.v (.str x25)), (.m (hM v.2 4)), (.m (hM v.2 5)), (.v (.int .i64 x18)), (.v (.sl x19))])).bind fun x38 => sel x38.1 [((asInt? .i64 (hV x38.2 2)).bind fun x39 =>
((asSl? (hV x38.2 3)).bind fun x40 =>
((scont (some [(.str [48, 48, 49])]) x21).bind fun x41 =>
(cond x41
(some (.inr (0, [(.v (.int .i64 7)), (.m (hM x38.2 0)), (.m (hM x38.2 1)), (.v (.int .i64 x39)), (.v (.sl x40))])))
((idxL (x14.getD []) 0).bind fun x42 =>
((asStr? x42).bind fun x43 =>
(chk (fits ((hM x38.2 0).length + 1))
((putE ⟨false, [.s]⟩ (.str x21) (T2.a (.v (.str x43))) (hM x38.2 0)).bind fun x44 =>
(some (.inl (0, [(.v (.sl x14)), (.v (.sl x15)), (.v (.int .i64 x16)), (.v (.int .i64 (IntKind.wrap .i64 (x17 + 1)))), (.m x44), (.m (hM x38.2 1)), (.v (.int .i64 x39)), (.v (.sl x40))]))))))))))),
((asInt? .i64 (hV x38.2 2)).bind fun x45 =>
((asSl? (hV x38.2 3)).bind fun x46 =>
(chk ((fits ((hL x38.2 4).length + 1)) && true)
((scont (some ((hL x38.2 4) ++ [(.str [48, 48, 49])])) x21).bind fun x47 =>
(cond x47
(some (.inr (0, [(.v (.int .i64 7)), (.m (hM x38.2 0)), (.m (hM x38.2 1)), (.v (.int .i64 x45)), (.v (.sl x46))])))
((idxL (x14.getD []) 0).bind fun x48 =>
((asStr? x48).bind fun x49 =>
(chk (fits ((hM x38.2 0).length + 1))
((putE ⟨false, [.s]⟩ (.str x21) (T2.a (.v (.str x49))) (hM x38.2 0)).bind fun x50 =>
(some (.inl (0, [(.v (.sl x14)), (.v (.sl x15)), (.v (.int .i64 x16)), (.v (.int .i64 (IntKind.wrap .i64 (x17 + 1)))), (.m x50), (.m (hM x38.2 1)), (.v (.int .i64 x45)), (.v (.sl x46))]))))))))))))]))))))))
(some (.inr (1, [(.m (hM v.2 4)), (.m (hM v.2 5)), (.v (.int .i64 x18)), (.v (.sl x19))]))))))))))]
noncomputable def rload_L0 (v : Vs) : Option (Vs ⊕ Vs) := sel v.1 [((asSl? (hV v.2 0)).bind fun x0 =>
((asInt? .i64 (hV v.2 1)).bind fun x1 =>
((asInt? .i64 (hV v.2 2)).bind fun x2 =>
(cond (decide (x2 < x1))
((idxL (x0.getD []) x2).bind fun x3 =>
((asAgg? 2 x3).bind fun x4 =>
((asInt? .i64 (x4.getD 0 .nilp)).bind fun x5 =>
((asSl? (x4.getD 1 .nilp)).bind fun x6 =>
(cond (((slLen x6 : Nat) : Int) == 0)
(some (.inl (0, [(.v (.sl x0)), (.v (.int .i64 x1)), (.v (.int .i64 (IntKind.wrap .i64 (x2 + 1)))), (.m (hM v.2 3)), (.m (hM v.2 4))])))
((idxL (x6.getD []) 0).bind fun x7 =>
((asStr? x7).bind fun x8 =>
(cond (x8 == [114, 101, 103, 105, 111, 110])
((cutSl 1 (some 1) none x6).bind fun x9 =>
(cond (decide (((slLen x9 : Nat) : Int) < 2))
(some (.inr (0, [(.v (.pt none)), (.v (.int .i64 x5)), (.v (.int .i64 2))])))
((scof x9).bind fun x10 =>
(cond x10
(some (.inr (0, [(.v (.pt none)), (.v (.int .i64 x5)), (.v (.int .i64 2))])))
((cutSl 1 (some 1) none x9).bind fun x11 =>
((scont x11 [48, 48, 49]).bind fun x12 =>
(cond x12
(some (.inr (0, [(.v (.pt none)), (.v (.int .i64 x5)), (.v (.int .i64 2))])))
((cutSl 1 (some 1) none x9).bind fun x13 =>
((loopK rload_L1 FU (0, [(.v (.sl x9)), (.v (.sl x13)), (.v (.int .i64 ((slLen x13 : Nat) : Int))), (.v (.int .i64 0)), (.m (hM v.2 3)), (.m (hM v.2 4)), (.v (.int .i64 x5)), (.v (.sl x6))])).bind fun x51 => sel x51.1 [((asInt? .i64 (hV x51.2 0)).bind fun x52 =>
((asInt? .i64 (hV x51.2 3)).bind fun x53 =>
((asSl? (hV x51.2 4)).bind fun x54 =>
(cond (x52 != 0)
(some (.inr (0, [(.v (.pt none)), (.v (.int .i64 x53)), (.v (.int .i64 x52))])))
(some (.inl (0, [(.v (.sl x0)), (.v (.int .i64 x1)), (.v (.int .i64 (IntKind.wrap .i64 (x2 + 1)))), (.m (hM x51.2 1)), (.m (hM x51.2 2))]))))))),
((asInt? .i64 (hV x51.2 2)).bind fun x55 =>
((asSl? (hV x51.2 3)).bind fun x56 =>
(some (.inl (0, [(.v (.sl x0)), (.v (.int .i64 x1)), (.v (.int .i64 (IntKind.wrap .i64 (x2 + 1)))), (.m (hM x51.2 0)), (.m (hM x51.2 1))])))))])))))))))
((idxL (x6.getD []) 0).bind fun x57 =>
((asStr? x57).bind fun x58 =>
(cond (x58 == [108, 105, 107, 101, 108, 121])
((cutSl 1 (some 1) none x6).bind fun x59 =>
(cond (((slLen x59 : Nat) : Int) != 2)
(some (.inr (0, [(.v (.pt none)), (.v (.int .i64 x5)), (.v (.int .i64 2))])))
((idxL (x59.getD []) 0).bind fun x60 =>
((asStr? x60).bind fun x61 =>
((rof x61 [97, 98, 99, 100, 101, 102, 103, 104, 105, 106, 107, 108, 109, 110, 111, 112, 113, 114, 115, 116, 117, 118, 119, 120, 121, 122] 2 3).bind fun x62 =>
(cond (!x62)
(some (.inr (0, [(.v (.pt none)), (.v (.int .i64 x5)), (.v (.int .i64 2))])))
((idxL (x59.getD []) 1).bind fun x63 =>
((asStr? x63).bind fun x64 =>
((rplace x64).bind fun x65 =>
(cond (!x65)
(some (.inr (0, [(.v (.pt none)), (.v (.int .i64 x5)), (.v (.int .i64 2))])))
((idxL (x59.getD []) 0).bind fun x66 =>
((asStr? x66).bind fun x67 =>
((lookE ⟨false, [.s]⟩ (.str x67) (hM v.2 4)).bind fun x68 =>
((asStr? (x68.getD (.str []))).bind fun x69 =>
(cond (!(x69 == []))
(some (.inr (0, [(.v (.pt none)), (.v (.int .i64 x5)), (.v (.int .i64 10))])))
((idxL (x59.getD []) 0).bind fun x70 =>
((asStr? x70).bind fun x71 =>
((idxL (x59.getD []) 1).bind fun x72 =>
((asStr? x72).bind fun x73 =>
(chk (fits ((hM v.2 4).length + 1))
((putE ⟨false, [.s]⟩ (.str x71) (T2.a (.v (.str x73))) (hM v.2 4)).bind fun x74 =>
(some (.inl (0, [(.v (.sl x0)), (.v (.int .i64 x1)), (.v (.int .i64 (IntKind.wrap .i64 (x2 + 1)))), (.m (hM v.2 3)), (.m x74)]))))))))))))))))))))))))
(some (.inl (0, [(.v (.sl x0)), (.v (.int .i64 x1)), (.v (.int .i64 (IntKind.wrap .i64 (x2 + 1)))), (.m (hM v.2 3)), (.m (hM v.2 4))]))))))))))))))
(some (.inr (1, [(.m (hM v.2 3)), (.m (hM v.2 4))])))))))]
noncomputable def rload (a0 : Option (List V)) : Option (Option (List V) × Int × Int) :=
((loopK rload_L0 FU (0, [(.v (.sl a0)), (.v (.int .i64 ((slLen a0 : Nat) : Int))), (.v (.int .i64 0)), (.m []), (.m [])])).bind fun x75 => sel x75.1 [((asPt? (hV x75.2 0)).bind fun x76 =>
((asInt? .i64 (hV x75.2 1)).bind fun x77 =>
((asInt? .i64 (hV x75.2 2)).bind fun x78 =>
(some (x76, x77, x78))))),
((frzE (hM x75.2 0)).bind fun x79 =>
((frzE (hM x75.2 1)).bind fun x80 =>
(some ((some [(.mp (some x79)), (.mp (some x80))]), 0, 0))))])
noncomputable def rload_e : List SV → Objs → Option ((β : Type) → (SV → Objs → Option β) → Option β)
  | [.a (.v (.sl a0))], os => some fun _ K => (rload a0).bind fun p => K (.a (.v (.tup [(.pt p.1), (.int .i64 p.2.1), (.int .i64 p.2.2)]))) os
  | _, _ => none
noncomputable def rload_k (sv : SV) (os : Objs) : Option (Option (List V) × Int × Int) := match sv, os with
  | .a (.v v), [] => dTy (.tup [(.k .pt), (.k (.int .i64)), (.k (.int .i64))]) v fun v => (match v with | (.tup [(.pt r0), (.int .i64 r1), (.int .i64 r2)]) => some (r0, r1, r2) | _ => none)
  | _, _ => none
noncomputable def rload_n : FuncId → Nat → Ann := fun f n => match f, n with
  | 19, 0 => ⟨[(17, (.t1 (.agg [(.int .i64), .sl]))), (27, (.t1 (.k .str))), (38, (.t1 (.k .str)))], [⟨[⟨[.u, .u, .u, .u, .u, .a (.loc 0 0), .u, .u, .u, .u, .u, .u, .u, .a (.h (.t1 (.k .sl))), .a (.h (.t1 (.k (.int .i64)))), .a (.h (.t1 (.k (.int .i64)))), .u, .u, .u, .u, .u, .u, .u, .u, .u, .u, .u, .u, .u, .u, .u, .u, .u, .u, .u, .u, .u, .u, .u, .u, .u, .u, .u, .u, .u, .u, .u, .u, .u, .u, .u, .u, .u], [.box 86 [.mapr 1, .mapr 2], .map, .map]⟩], [(.ret, ⟨[.u, .u, .a (.h (.t1 (.k .pt))), .a (.h (.t1 (.k (.int .i64)))), .a (.h (.t1 (.k (.int .i64)))), .u, .u, .u, .u, .u, .u, .u, .u, .u, .u, .u, .u, .u, .u, .u, .u, .u, .u, .u, .u, .u, .u, .u, .u, .u, .u, .u, .u, .u, .u, .u, .u, .u, .u, .u, .u, .u, .u, .u, .u, .u, .u, .u, .u, .u, .u, .u, .u], []⟩), ((.ex 0), ⟨[.u, .u, .u, .u, .u, .a (.loc 0 0), .u, .u, .u, .u, .u, .u, .u, .u, .u, .u, .u, .u, .u, .u, .u, .u, .u, .u, .u, .u, .u, .u, .u, .u, .u, .u, .u, .u, .u, .u, .u, .u, .u, .u, .u, .u, .u, .u, .u, .u, .u, .u, .u, .u, .u, .u, .u], [.box 86 [.mapr 1, .mapr 2], .map, .map]⟩)]⟩], true⟩
  | 35, 4 => ⟨[(24, (.t1 (.k .str))), (32, (.t1 (.k .str))), (37, (.t1 (.k .str))), (48, (.t1 (.k .str)))], [⟨[⟨[.a (.loc 0 0), .a (.h (.t1 (.k .sl))), .u, .u, .u, .u, .u, .u, .u, .u, .u, .u, .u, .u, .u, .u, .u, .u, .u, .u, .a (.h (.t1 (.k .sl))), .a (.h (.t1 (.k (.int .i64)))), .a (.h (.t1 (.k (.int .i64)))), .u, .u, .u, .u, .u, .u, .u, .u, .u, .u, .u, .u, .u, .u, .u, .u, .u, .u, .u, .u, .u, .u, .u, .u, .u, .u, .u, .u], [.box 86 [.mapr 1, .mapr 2], .map, .map, .box 74 [.h (.t1 (.k (.int .i64))), .h (.t1 (.k .sl))]]⟩], [(.ret, ⟨[.u, .u, .u, .u, .a (.h (.t1 (.k (.int .i64)))), .u, .u, .u, .u, .u, .u, .u, .u, .u, .u, .u, .u, .u, .u, .u, .u, .u, .u, .u, .u, .u, .u, .u, .u, .u, .u, .u, .u, .u, .u, .u, .u, .u, .u, .u, .u, .u, .u, .u, .u, .u, .u, .u, .u, .u, .u], [.box 86 [.mapr 1, .mapr 2], .map, .map, .box 74 [.h (.t1 (.k (.int .i64))), .h (.t1 (.k .sl))]]⟩), ((.ex 0), ⟨[.u, .u, .u, .u, .u, .u, .u, .u, .u, .u, .u, .u, .u, .u, .u, .u, .u, .u, .u, .u, .u, .u, .u, .u, .u, .u, .u, .u, .u, .u, .u, .u, .u, .u, .u, .u, .u, .u, .u, .u, .u, .u, .u, .u, .u, .u, .u, .u, .u, .u, .u], [.box 86 [.mapr 1, .mapr 2], .map, .map, .box 74 [.h (.t1 (.k (.int .i64))), .h (.t1 (.k .sl))]]⟩)]⟩], false⟩
  | 20, 4 => ⟨[(17, (.t1 (.k .str)))], [⟨[⟨[.a (.loc 0 0), .a (.h (.t1 (.k .str))), .u, .u, .u, .a (.nil), .u, .u, .u, .u, .u, .u, .u, .u, .u, .u, .u, .u, .u, .u, .u, .u, .u, .u, .u], [.box 86 [.mapr 1, .mapr 2], .map, .map, .box 74 [.h (.t1 (.k (.int .i64))), .h (.t1 (.k .sl))]]⟩, ⟨[.a (.loc 0 0), .a (.h (.t1 (.k .str))), .u, .u, .u, .a (.own 4), .u, .u, .u, .u, .u, .u, .u, .u, .u, .u, .u, .u, .u, .u, .u, .u, .u, .u, .u], [.box 86 [.mapr 1, .mapr 2], .map, .map, .box 74 [.h (.t1 (.k (.int .i64))), .h (.t1 (.k .sl))], .ext 9 1]⟩], [((.ex 0), ⟨[.u, .u, .u, .u, .u, .a (.nil), .u, .u, .u, .u, .u, .u, .u, .u, .u, .u, .u, .u, .u, .u, .u, .u, .u, .u, .u], [.box 86 [.mapr 1, .mapr 2], .map, .map, .box 74 [.h (.t1 (.k (.int .i64))), .h (.t1 (.k .sl))]]⟩), ((.ex 0), ⟨[.u, .u, .u, .u, .u, .a (.own 4), .u, .u, .u, .u, .u, .u, .u, .u, .u, .u, .u, .u, .u, .u, .u, .u, .u, .u, .u], [.box 86 [.mapr 1, .mapr 2], .map, .map, .box 74 [.h (.t1 (.k (.int .i64))), .h (.t1 (.k .sl))], .ext 9 1]⟩)]⟩], false⟩
  | 36, 4 => ⟨[(11, (.t1 (.k .str))), (18, (.t1 (.k .str))), (29, (.t1 (.k .str))), (31, (.t1 (.k .str))), (38, (.t1 (.k .str))), (41, (.t1 (.k .str)))], [], false⟩
  | _, _ => ⟨[], [], false⟩
theorem rload_q : (fun (a0 : Option (List V)) => stN tab0_27 code rload_n FU 24 19 [.a (.v (.sl a0))] [] rload_k) = (fun (a0 : Option (List V)) => rload a0) := by kernel_rfl
noncomputable def tab0_28 : ToldK := addTo tab0_27 19 rload_e
theorem rload_h : EntryOK tab0_27 code rload_n FU 24 19 rload_e := by
  intro args os t h
  unfold rload_e at h
  split at h
  · rename_i os0 a0
    cases h
    exact ⟨_, _, fun p => (.tup [(.pt p.1), (.int .i64 p.2.1), (.int .i64 p.2.2)]), rload_k, ids_all rfl, fun _ _ => rfl, (congrFun rload_q _), fun sv os p hp => by
      unfold rload_k at hp
      split at hp
      · have hp := dTy_ok hp
        split at hp
        · cases hp; exact ⟨rfl, rfl⟩
        · cases hp
      · cases hp⟩
  · cases h
/-! cubit/cubitlaw15.texts -/
noncomputable def rtexts_L0 (v : Vs) : Option (Vs ⊕ Vs) := sel v.1 [((asSl? (hV v.2 0)).bind fun x0 =>
((asSl? (hV v.2 1)).bind fun x1 =>
((asInt? .i64 (hV v.2 2)).bind fun x2 =>
(cond (decide (x2 < ((slLen x0 : Nat) : Int)))
((idxL (x0.getD []) x2).bind fun x3 =>
((asStr? x3).bind fun x4 =>
((idxL (x1.getD []) x2).bind fun x5 =>
((asStr? x5).bind fun x6 =>
(cond (!(x4 == x6))
(some (.inr (0, [(.v (.bool false))])))
(some (.inl (0, [(.v (.sl x0)), (.v (.sl x1)), (.v (.int .i64 (IntKind.wrap .i64 (x2 + 1))))]))))))))
(some (.inr (1, [])))))))]
noncomputable def rtexts (a0 : Option (List V)) (a1 : Option (List V)) : Option (Bool) :=
(cond (((slLen a0 : Nat) : Int) != ((slLen a1 : Nat) : Int))
(some (false))
((loopK rtexts_L0 FU (0, [(.v (.sl a0)), (.v (.sl a1)), (.v (.int .i64 0))])).bind fun x7 => sel x7.1 [((asBool? (hV x7.2 0)).bind fun x8 =>
(some (x8))),
(some (true))]))
noncomputable def rtexts_e : List SV → Objs → Option ((β : Type) → (SV → Objs → Option β) → Option β)
  | [.a (.v (.sl a0)), .a (.v (.sl a1))], os => some fun _ K => (rtexts a0 a1).bind fun p => K (.a (.v (.bool p))) os
  | _, _ => none
noncomputable def rtexts_k (sv : SV) (os : Objs) : Option (Bool) := match sv, os with
  | .a (.v v), [] => dTy (.t1 (.k .bool)) v fun v => (match v with | (.bool r0) => some (r0) | _ => none)
  | _, _ => none
noncomputable def rtexts_n : FuncId → Nat → Ann := fun f n => match f, n with
  | 21, 0 => ⟨[(19, (.t1 (.k .str))), (23, (.t1 (.k .str)))], [⟨[⟨[.a (.h (.t1 (.k .sl))), .a (.h (.t1 (.k .sl))), .u, .u, .u, .a (.h (.t1 (.k (.int .i64)))), .u, .u, .u, .u, .u, .u, .u, .u, .u, .u, .u, .u, .u, .u, .u, .u, .u, .u, .u, .u], []⟩], [(.ret, ⟨[.u, .u, .u, .u, .a (.h (.t1 (.k .bool))), .u, .u, .u, .u, .u, .u, .u, .u, .u, .u, .u, .u, .u, .u, .u, .u, .u, .u, .u, .u, .u], []⟩), ((.ex 0), ⟨[.u, .u, .u, .u, .u, .u, .u, .u, .u, .u, .u, .u, .u, .u, .u, .u, .u, .u, .u, .u, .u, .u, .u, .u, .u, .u], []⟩)]⟩], false⟩
  | _, _ => ⟨[], [], false⟩
theorem rtexts_q : (fun (a0 : Option (List V)) (a1 : Option (List V)) => stN tab0_28 code rtexts_n FU 24 21 [.a (.v (.sl a0)), .a (.v (.sl a1))] [] rtexts_k) = (fun (a0 : Option (List V)) (a1 : Option (List V)) => rtexts a0 a1) := by kernel_rfl
noncomputable def tab0_29 : ToldK := addTo tab0_28 21 rtexts_e
theorem rtexts_h : EntryOK tab0_28 code rtexts_n FU 24 21 rtexts_e := by
  intro args os t h
  unfold rtexts_e at h
  split at h
  · rename_i os0 a0 a1
    cases h
    exact ⟨_, _, fun p => (.bool p), rtexts_k, ids_all rfl, fun _ _ => rfl, (congrFun (congrFun rtexts_q _) _), fun sv os p hp => by
      unfold rtexts_k at hp
      split at hp
      · have hp := dTy_ok hp
        split at hp
        · cases hp; exact ⟨rfl, rfl⟩
        · cases hp
      · cases hp⟩
  · cases h
/-! cubit/cubitlaw15.heavy -/
noncomputable def rheavy_L1 (v : Vs) : Option (Vs ⊕ Vs) := sel v.1 [((asSl? (hV v.2 0)).bind fun x6 =>
((asInt? .i64 (hV v.2 1)).bind fun x7 =>
((asInt? .i64 (hV v.2 2)).bind fun x8 =>
((idxL (x6.getD []) x7).bind fun x9 =>
((asAgg? 2 x9).bind fun x10 =>
((asInt? .i64 (x10.getD 0 .nilp)).bind fun x11 =>
((asSl? (x10.getD 1 .nilp)).bind fun x12 =>
(cond (decide (x8 < ((slLen x12 : Nat) : Int)))
((idxL (x6.getD []) x7).bind fun x13 =>
((asAgg? 2 x13).bind fun x14 =>
((asInt? .i64 (x14.getD 0 .nilp)).bind fun x15 =>
((asSl? (x14.getD 1 .nilp)).bind fun x16 =>
((idxL (x16.getD []) x8).bind fun x17 =>
((asStr? x17).bind fun x18 =>
(cond (decide ((((x18 : List UInt8).length : Nat) : Int) > 120))
(some (.inr (0, [(.v (.bool true))])))
(some (.inl (0, [(.v (.sl x6)), (.v (.int .i64 x7)), (.v (.int .i64 (IntKind.wrap .i64 (x8 + 1))))]))))))))))
(some (.inr (1, [(.v (.sl x6)), (.v (.int .i64 x7))])))))))))))]
noncomputable def rheavy_L0 (v : Vs) : Option (Vs ⊕ Vs) := sel v.1 [((asSl? (hV v.2 0)).bind fun x0 =>
((asInt? .i64 (hV v.2 1)).bind fun x1 =>
(cond (decide (x1 < ((slLen x0 : Nat) : Int)))
((idxL (x0.getD []) x1).bind fun x2 =>
((asAgg? 2 x2).bind fun x3 =>
((asInt? .i64 (x3.getD 0 .nilp)).bind fun x4 =>
((asSl? (x3.getD 1 .nilp)).bind fun x5 =>
(cond (decide (((slLen x5 : Nat) : Int) > 30))
(some (.inr (0, [(.v (.bool true))])))
((loopK rheavy_L1 FU (0, [(.v (.sl x0)), (.v (.int .i64 x1)), (.v (.int .i64 0))])).bind fun x19 => sel x19.1 [((asBool? (hV x19.2 0)).bind fun x20 =>
(some (.inr (0, [(.v (.bool x20))])))),
((asSl? (hV x19.2 0)).bind fun x21 =>
((asInt? .i64 (hV x19.2 1)).bind fun x22 =>
(some (.inl (0, [(.v (.sl x21)), (.v (.int .i64 (IntKind.wrap .i64 (x22 + 1))))])))))]))))))
(some (.inr (1, []))))))]
noncomputable def rheavy (a0 : Option (List V)) : Option (Bool) :=
(cond (decide (((slLen a0 : Nat) : Int) > 60))
(some (true))
((loopK rheavy_L0 FU (0, [(.v (.sl a0)), (.v (.int .i64 0))])).bind fun x23 => sel x23.1 [((asBool? (hV x23.2 0)).bind fun x24 =>
(some (x24))),
(some (false))]))
noncomputable def rheavy_e : List SV → Objs → Option ((β : Type) → (SV → Objs → Option β) → Option β)
  | [.a (.v (.sl a0))], os => some fun _ K => (rheavy a0).bind fun p => K (.a (.v (.bool p))) os
  | _, _ => none
noncomputable def rheavy_k (sv : SV) (os : Objs) : Option (Bool) := match sv, os with
  | .a (.v v), [] => dTy (.t1 (.k .bool)) v fun v => (match v with | (.bool r0) => some (r0) | _ => none)
  | _, _ => none
noncomputable def rheavy_n : FuncId → Nat → Ann := fun f n => match f, n with
  | 18, 0 => ⟨[(16, (.t1 (.agg [(.int .i64), .sl]))), (24, (.t1 (.agg [(.int .i64), .sl]))), (33, (.t1 (.agg [(.int .i64), .sl]))), (37, (.t1 (.k .str)))], [⟨[⟨[.a (.h (.t1 (.k .sl))), .u, .u, .a (.h (.t1 (.k (.int .i64)))), .u, .u, .u, .u, .u, .u, .u, .u, .u, .u, .u, .u, .u, .u, .u, .u, .u, .u, .u, .u, .u, .u, .u, .u, .u, .u, .u, .u, .u, .u, .u, .u, .u, .u, .u, .u, .u], []⟩], [(.ret, ⟨[.u, .u, .a (.h (.t1 (.k .bool))), .u, .u, .u, .u, .u, .u, .u, .u, .u, .u, .u, .u, .u, .u, .u, .u, .u, .u, .u, .u, .u, .u, .u, .u, .u, .u, .u, .u, .u, .u, .u, .u, .u, .u, .u, .u, .u, .u], []⟩), ((.ex 0), ⟨[.u, .u, .u, .u, .u, .u, .u, .u, .u, .u, .u, .u, .u, .u, .u, .u, .u, .u, .u, .u, .u, .u, .u, .u, .u, .u, .u, .u, .u, .u, .u, .u, .u, .u, .u, .u, .u, .u, .u, .u, .u], []⟩)]⟩, ⟨[⟨[.a (.h (.t1 (.k .sl))), .u, .u, .a (.h (.t1 (.k (.int .i64)))), .a (.h (.t1 (.k (.int .i64)))), .u, .u, .u, .u, .u, .u, .u, .u, .u, .u, .u, .u, .u, .u, .u, .u, .u, .u, .u, .u, .u, .u, .u, .u, .u, .u, .u, .u, .u, .u, .u, .u, .u, .u, .u, .u], []⟩], [(.ret, ⟨[.u, .u, .a (.h (.t1 (.k .bool))), .u, .u, .u, .u, .u, .u, .u, .u, .u, .u, .u, .u, .u, .u, .u, .u, .u, .u, .u, .u, .u, .u, .u, .u, .u, .u, .u, .u, .u, .u, .u, .u, .u, .u, .u, .u, .u, .u], []⟩), ((.ex 2), ⟨[.a (.h (.t1 (.k .sl))), .u, .u, .a (.h (.t1 (.k (.int .i64)))), .u, .u, .u, .u, .u, .u, .u, .u, .u, .u, .u, .u, .u, .u, .u, .u, .u, .u, .u, .u, .u, .u, .u, .u, .u, .u, .u, .u, .u, .u, .u, .u, .u, .u, .u, .u, .u], []⟩)]⟩], false⟩
  | _, _ => ⟨[], [], false⟩
theorem rheavy_q : (fun (a0 : Option (List V)) => stN tab0_29 code rheavy_n FU 24 18 [.a (.v (.sl a0))] [] rheavy_k) = (fun (a0 : Option (List V)) => rheavy a0) := by kernel_rfl
noncomputable def tab0_30 : ToldK := addTo tab0_29 18 rheavy_e
theorem rheavy_h : EntryOK tab0_29 code rheavy_n FU 24 18 rheavy_e := by
  intro args os t h
  unfold rheavy_e at h
  split at h
  · rename_i os0 a0
    cases h
    exact ⟨_, _, fun p => (.bool p), rheavy_k, ids_all rfl, fun _ _ => rfl, (congrFun rheavy_q _), fun sv os p hp => by
      unfold rheavy_k at hp
      split at hp
      · have hp := dTy_ok hp
        split at hp
        · cases hp; exact ⟨rfl, rfl⟩
        · cases hp
      · cases hp⟩
  · cases h
/-! cubit/cubitlaw15.load -/
noncomputable def rlload (a0 : List UInt8) : Option (Option (List V) × Int × Int) :=
((rparse a0).bind fun x0 =>
(cond (x0.2.2 != 0)
(some (none, 0, x0.2.2))
((rload x0.1).bind fun x1 =>
(some (x1.1, x1.2.1, x1.2.2)))))
noncomputable def rlload_e : List SV → Objs → Option ((β : Type) → (SV → Objs → Option β) → Option β)
  | [.a (.v (.str a0))], os => some fun _ K => (rlload a0).bind fun p => K (.a (.v (.tup [(.pt p.1), (.int .i64 p.2.1), (.int .i64 p.2.2)]))) os
  | _, _ => none
noncomputable def rlload_k (sv : SV) (os : Objs) : Option (Option (List V) × Int × Int) := match sv, os with
  | .a (.v v), [] => dTy (.tup [(.k .pt), (.k (.int .i64)), (.k (.int .i64))]) v fun v => (match v with | (.tup [(.pt r0), (.int .i64 r1), (.int .i64 r2)]) => some (r0, r1, r2) | _ => none)
  | _, _ => none
noncomputable def rlload_n : FuncId → Nat → Ann := fun f n => match f, n with
  | _, _ => ⟨[], [], false⟩
theorem rlload_q : (fun (a0 : List UInt8) => stN tab0_30 code rlload_n FU 24 24 [.a (.v (.str a0))] [] rlload_k) = (fun (a0 : List UInt8) => rlload a0) := by kernel_rfl
noncomputable def tab0_31 : ToldK := addTo tab0_30 24 rlload_e
theorem rlload_h : EntryOK tab0_30 code rlload_n FU 24 24 rlload_e := by
  intro args os t h
  unfold rlload_e at h
  split at h
  · rename_i os0 a0
    cases h
    exact ⟨_, _, fun p => (.tup [(.pt p.1), (.int .i64 p.2.1), (.int .i64 p.2.2)]), rlload_k, ids_all rfl, fun _ _ => rfl, (congrFun rlload_q _), fun sv os p hp => by
      unfold rlload_k at hp
      split at hp
      · have hp := dTy_ok hp
        split at hp
        · cases hp; exact ⟨rfl, rfl⟩
        · cases hp
      · cases hp⟩
  · cases h
/-! cubit/cubitlaw15.awake -/
noncomputable def awake15  : Option (Bool) :=
((rlload [114, 101, 103, 105, 111, 110, 32, 48, 48, 49, 32, 85, 83]).bind fun x0 =>
(cond (x0.2.2 == 0)
(cond (!(x0.1.isNone))
((rchain x0.1 [85, 83]).bind fun x1 =>
((rtexts x1 (some [(.str [85, 83]), (.str [48, 48, 49])])).bind fun x2 =>
(cond x2
((rwithin x0.1 [85, 83] [48, 48, 49]).bind fun x3 =>
(some (x3)))
(some (false)))))
(some (false)))
(some (false))))
noncomputable def awake15_e : List SV → Objs → Option ((β : Type) → (SV → Objs → Option β) → Option β)
  | [], os => some fun _ K => (awake15).bind fun p => K (.a (.v (.bool p))) os
  | _, _ => none
noncomputable def awake15_k (sv : SV) (os : Objs) : Option (Bool) := match sv, os with
  | .a (.v v), [] => dTy (.t1 (.k .bool)) v fun v => (match v with | (.bool r0) => some (r0) | _ => none)
  | _, _ => none
noncomputable def awake15_n : FuncId → Nat → Ann := fun f n => match f, n with
  | _, _ => ⟨[], [], false⟩
theorem awake15_q : (stN tab0_31 code awake15_n FU 24 17 [] [] awake15_k) = (awake15) := by kernel_rfl
noncomputable def tab0_32 : ToldK := addTo tab0_31 17 awake15_e
theorem awake15_h : EntryOK tab0_31 code awake15_n FU 24 17 awake15_e := by
  intro args os t h
  unfold awake15_e at h
  split at h
  · rename_i os0 
    cases h
    exact ⟨_, _, fun p => (.bool p), awake15_k, ids_all rfl, fun _ _ => rfl, awake15_q, fun sv os p hp => by
      unfold awake15_k at hp
      split at hp
      · have hp := dTy_ok hp
        split at hp
        · cases hp; exact ⟨rfl, rfl⟩
        · cases hp
      · cases hp⟩
  · cases h
/-! cubit/cubitlaw15.RegionWithin -/
noncomputable def lwithin (a0 : Option (List V)) (a1 : List UInt8) (a2 : List UInt8) (a3 : List UInt8) : Option (Bool) :=
((awake15 ).bind fun x0 =>
(cond (!x0)
(some (false))
((rheavy a0).bind fun x1 =>
(cond x1
(some (true))
(cond (decide ((((a1 : List UInt8).length : Nat) : Int) > 20))
(some (true))
(cond (decide ((((a2 : List UInt8).length : Nat) : Int) > 20))
(some (true))
(cond (decide ((((a3 : List UInt8).length : Nat) : Int) > 20))
(some (true))
((rload a0).bind fun x2 =>
(cond (x2.2.2 != 0)
(some ((x2.2.2 != 0)))
(cond (x2.1.isNone)
(some ((x2.2.2 != 0)))
((rwithin x2.1 a1 a2).bind fun x3 =>
(cond x3
((rwithin x2.1 a2 a3).bind fun x4 =>
(cond x4
((rwithin x2.1 a1 a3).bind fun x5 =>
(cond (!x5)
(cond (!(a3 == [48, 48, 49]))
(some (false))
((rwithin x2.1 a1 [48, 48, 49]).bind fun x6 =>
(cond x6
(cond (a1 == a2)
(some (true))
((rwithin x2.1 a1 a2).bind fun x7 =>
(cond (!x7)
(some (true))
((rwithin x2.1 a2 a1).bind fun x8 =>
(some ((!x8)))))))
(some (false)))))
((rwithin x2.1 a1 [48, 48, 49]).bind fun x9 =>
(cond x9
(cond (a1 == a2)
(some (true))
((rwithin x2.1 a1 a2).bind fun x10 =>
(cond (!x10)
(some (true))
((rwithin x2.1 a2 a1).bind fun x11 =>
(some ((!x11)))))))
(some (false))))))
((rwithin x2.1 a1 [48, 48, 49]).bind fun x12 =>
(cond x12
(cond (a1 == a2)
(some (true))
((rwithin x2.1 a1 a2).bind fun x13 =>
(cond (!x13)
(some (true))
((rwithin x2.1 a2 a1).bind fun x14 =>
(some ((!x14)))))))
(some (false))))))
((rwithin x2.1 a1 [48, 48, 49]).bind fun x15 =>
(cond x15
(cond (a1 == a2)
(some (true))
((rwithin x2.1 a1 a2).bind fun x16 =>
(cond (!x16)
(some (true))
((rwithin x2.1 a2 a1).bind fun x17 =>
(some ((!x17)))))))
(some (false))))))))))))))))
noncomputable def lwithin_e : List SV → Objs → Option ((β : Type) → (SV → Objs → Option β) → Option β)
  | [.a (.v (.sl a0)), .a (.v (.str a1)), .a (.v (.str a2)), .a (.v (.str a3))], os => some fun _ K => (lwithin a0 a1 a2 a3).bind fun p => K (.a (.v (.bool p))) os
  | _, _ => none
noncomputable def lwithin_k (sv : SV) (os : Objs) : Option (Bool) := match sv, os with
  | .a (.v v), [] => dTy (.t1 (.k .bool)) v fun v => (match v with | (.bool r0) => some (r0) | _ => none)
  | _, _ => none
noncomputable def lwithin_n : FuncId → Nat → Ann := fun f n => match f, n with
  | _, _ => ⟨[], [], false⟩
theorem lwithin_q : (fun (a0 : Option (List V)) (a1 : List UInt8) (a2 : List UInt8) (a3 : List UInt8) => stN tab0_32 code lwithin_n FU 24 6 [.a (.v (.sl a0)), .a (.v (.str a1)), .a (.v (.str a2)), .a (.v (.str a3))] [] lwithin_k) = (fun (a0 : Option (List V)) (a1 : List UInt8) (a2 : List UInt8) (a3 : List UInt8) => lwithin a0 a1 a2 a3) := by kernel_rfl
noncomputable def tab0_33 : ToldK := addTo tab0_32 6 lwithin_e
theorem lwithin_h : EntryOK tab0_32 code lwithin_n FU 24 6 lwithin_e := by
  intro args os t h
  unfold lwithin_e at h
  split at h
  · rename_i os0 a0 a1 a2 a3
    cases h
    exact ⟨_, _, fun p => (.bool p), lwithin_k, ids_all rfl, fun _ _ => rfl, (congrFun (congrFun (congrFun (congrFun lwithin_q _) _) _) _), fun sv os p hp => by
      unfold lwithin_k at hp
      split at hp
      · have hp := dTy_ok hp
        split at hp
        · cases hp; exact ⟨rfl, rfl⟩
        · cases hp
      · cases hp⟩
  · cases h
/-! cubit/cubitlaw15.RegionChains -/
noncomputable def lchains_L1 (v : Vs) : Option (Vs ⊕ Vs) := sel v.1 [((asStr? (hV v.2 0)).bind fun x10 =>
((asPt? (hV v.2 1)).bind fun x11 =>
((asSl? (hV v.2 2)).bind fun x12 =>
((asInt? .i64 (hV v.2 3)).bind fun x13 =>
((asInt? .i64 (hV v.2 4)).bind fun x14 =>
(cond (decide (x14 < x13))
((idxL (x12.getD []) x13).bind fun x15 =>
((asStr? x15).bind fun x16 =>
((idxL (x12.getD []) x14).bind fun x17 =>
((asStr? x17).bind fun x18 =>
(cond (x16 == x18)
(some (.inr (0, [(.v (.bool false))])))
(some (.inl (0, [(.v (.str x10)), (.v (.pt x11)), (.v (.sl x12)), (.v (.int .i64 x13)), (.v (.int .i64 (IntKind.wrap .i64 (x14 + 1))))]))))))))
(some (.inr (1, [(.v (.str x10)), (.v (.pt x11)), (.v (.sl x12)), (.v (.int .i64 x13))])))))))))]
noncomputable def lchains_L0 (v : Vs) : Option (Vs ⊕ Vs) := sel v.1 [((asStr? (hV v.2 0)).bind fun x6 =>
((asPt? (hV v.2 1)).bind fun x7 =>
((asSl? (hV v.2 2)).bind fun x8 =>
((asInt? .i64 (hV v.2 3)).bind fun x9 =>
(cond (decide (x9 < ((slLen x8 : Nat) : Int)))
((loopK lchains_L1 FU (0, [(.v (.str x6)), (.v (.pt x7)), (.v (.sl x8)), (.v (.int .i64 x9)), (.v (.int .i64 0))])).bind fun x19 => sel x19.1 [((asBool? (hV x19.2 0)).bind fun x20 =>
(some (.inr (0, [(.v (.bool x20))])))),
((asStr? (hV x19.2 0)).bind fun x21 =>
((asPt? (hV x19.2 1)).bind fun x22 =>
((asSl? (hV x19.2 2)).bind fun x23 =>
((asInt? .i64 (hV x19.2 3)).bind fun x24 =>
(some (.inl (0, [(.v (.str x21)), (.v (.pt x22)), (.v (.sl x23)), (.v (.int .i64 (IntKind.wrap .i64 (x24 + 1))))])))))))])
(some (.inr (1, [(.v (.str x6)), (.v (.pt x7)), (.v (.sl x8))]))))))))]
noncomputable def lchains (a0 : Option (List V)) (a1 : List UInt8) : Option (Bool) :=
((awake15 ).bind fun x0 =>
(cond (!x0)
(some (false))
((rheavy a0).bind fun x1 =>
(cond x1
(some (true))
(cond (decide ((((a1 : List UInt8).length : Nat) : Int) > 50))
(some (true))
((rload a0).bind fun x2 =>
(cond (x2.2.2 != 0)
(some ((x2.2.2 != 0)))
(cond (x2.1.isNone)
(some ((x2.2.2 != 0)))
((rchain x2.1 a1).bind fun x3 =>
(cond (decide (((slLen x3 : Nat) : Int) < 1))
(some (false))
((idxL (x3.getD []) (IntKind.wrap .i64 (((slLen x3 : Nat) : Int) - 1))).bind fun x4 =>
((asStr? x4).bind fun x5 =>
(cond (!(x5 == [48, 48, 49]))
(some (false))
((loopK lchains_L0 FU (0, [(.v (.str a1)), (.v (.pt x2.1)), (.v (.sl x3)), (.v (.int .i64 0))])).bind fun x25 => sel x25.1 [((asBool? (hV x25.2 0)).bind fun x26 =>
(some (x26))),
((asStr? (hV x25.2 0)).bind fun x27 =>
((asPt? (hV x25.2 1)).bind fun x28 =>
((asSl? (hV x25.2 2)).bind fun x29 =>
(cond (decide (((slLen x29 : Nat) : Int) < 2))
(some (true))
((idxL (x29.getD []) 0).bind fun x30 =>
((asStr? x30).bind fun x31 =>
(cond (x31 == x27)
((idxL (x29.getD []) 1).bind fun x32 =>
((asStr? x32).bind fun x33 =>
((rchain x28 x33).bind fun x34 =>
((cutSl 1 (some 1) none x29).bind fun x35 =>
((rtexts x34 x35).bind fun x36 =>
(some (x36)))))))
(some (false)))))))))]))))))))))))))
noncomputable def lchains_e : List SV → Objs → Option ((β : Type) → (SV → Objs → Option β) → Option β)
  | [.a (.v (.sl a0)), .a (.v (.str a1))], os => some fun _ K => (lchains a0 a1).bind fun p => K (.a (.v (.bool p))) os
  | _, _ => none
noncomputable def lchains_k (sv : SV) (os : Objs) : Option (Bool) := match sv, os with
  | .a (.v v), [] => dTy (.t1 (.k .bool)) v fun v => (match v with | (.bool r0) => some (r0) | _ => none)
  | _, _ => none
noncomputable def lchains_n : FuncId → Nat → Ann := fun f n => match f, n with
  | 5, 0 => ⟨[(45, (.t1 (.k .str))), (62, (.t1 (.k .str))), (66, (.t1 (.k .str))), (74, (.t1 (.k .str))), (81, (.t1 (.k .str)))], [⟨[⟨[.u, .a (.h (.t1 (.k .str))), .u, .u, .u, .a (.h (.t1 (.k .pt))), .u, .u, .a (.h (.t1 (.k .sl))), .a (.h (.t1 (.k (.int .i64)))), .u, .u, .u, .u, .u, .u, .u, .u, .u, .u, .u, .u, .u, .u, .u, .u, .u, .u, .u, .u, .u, .u, .u, .u, .u, .u, .u, .u, .u, .u, .u, .u, .u, .u, .u, .u, .u, .u, .u, .u, .u, .u, .u, .u, .u, .u, .u, .u, .u, .u, .u, .u, .u, .u, .u, .u, .u, .u, .u, .u, .u, .u, .u, .u, .u, .u, .u, .u, .u, .u, .u, .u, .u, .u, .u, .u, .u, .u, .u], []⟩], [(.ret, ⟨[.u, .u, .u, .u, .a (.h (.t1 (.k .bool))), .u, .u, .u, .u, .u, .u, .u, .u, .u, .u, .u, .u, .u, .u, .u, .u, .u, .u, .u, .u, .u, .u, .u, .u, .u, .u, .u, .u, .u, .u, .u, .u, .u, .u, .u, .u, .u, .u, .u, .u, .u, .u, .u, .u, .u, .u, .u, .u, .u, .u, .u, .u, .u, .u, .u, .u, .u, .u, .u, .u, .u, .u, .u, .u, .u, .u, .u, .u, .u, .u, .u, .u, .u, .u, .u, .u, .u, .u, .u, .u, .u, .u, .u, .u], []⟩), ((.ex 0), ⟨[.u, .a (.h (.t1 (.k .str))), .u, .u, .u, .a (.h (.t1 (.k .pt))), .u, .u, .a (.h (.t1 (.k .sl))), .u, .u, .u, .u, .u, .u, .u, .u, .u, .u, .u, .u, .u, .u, .u, .u, .u, .u, .u, .u, .u, .u, .u, .u, .u, .u, .u, .u, .u, .u, .u, .u, .u, .u, .u, .u, .u, .u, .u, .u, .u, .u, .u, .u, .u, .u, .u, .u, .u, .u, .u, .u, .u, .u, .u, .u, .u, .u, .u, .u, .u, .u, .u, .u, .u, .u, .u, .u, .u, .u, .u, .u, .u, .u, .u, .u, .u, .u, .u, .u], []⟩)]⟩, ⟨[⟨[.u, .a (.h (.t1 (.k .str))), .u, .u, .u, .a (.h (.t1 (.k .pt))), .u, .u, .a (.h (.t1 (.k .sl))), .a (.h (.t1 (.k (.int .i64)))), .a (.h (.t1 (.k (.int .i64)))), .u, .u, .u, .u, .u, .u, .u, .u, .u, .u, .u, .u, .u, .u, .u, .u, .u, .u, .u, .u, .u, .u, .u, .u, .u, .u, .u, .u, .u, .u, .u, .u, .u, .u, .u, .u, .u, .u, .u, .u, .u, .u, .u, .u, .u, .u, .u, .u, .u, .u, .u, .u, .u, .u, .u, .u, .u, .u, .u, .u, .u, .u, .u, .u, .u, .u, .u, .u, .u, .u, .u, .u, .u, .u, .u, .u, .u, .u], []⟩], [(.ret, ⟨[.u, .u, .u, .u, .a (.h (.t1 (.k .bool))), .u, .u, .u, .u, .u, .u, .u, .u, .u, .u, .u, .u, .u, .u, .u, .u, .u, .u, .u, .u, .u, .u, .u, .u, .u, .u, .u, .u, .u, .u, .u, .u, .u, .u, .u, .u, .u, .u, .u, .u, .u, .u, .u, .u, .u, .u, .u, .u, .u, .u, .u, .u, .u, .u, .u, .u, .u, .u, .u, .u, .u, .u, .u, .u, .u, .u, .u, .u, .u, .u, .u, .u, .u, .u, .u, .u, .u, .u, .u, .u, .u, .u, .u, .u], []⟩), ((.ex 2), ⟨[.u, .a (.h (.t1 (.k .str))), .u, .u, .u, .a (.h (.t1 (.k .pt))), .u, .u, .a (.h (.t1 (.k .sl))), .a (.h (.t1 (.k (.int .i64)))), .u, .u, .u, .u, .u, .u, .u, .u, .u, .u, .u, .u, .u, .u, .u, .u, .u, .u, .u, .u, .u, .u, .u, .u, .u, .u, .u, .u, .u, .u, .u, .u, .u, .u, .u, .u, .u, .u, .u, .u, .u, .u, .u, .u, .u, .u, .u, .u, .u, .u, .u, .u, .u, .u, .u, .u, .u, .u, .u, .u, .u, .u, .u, .u, .u, .u, .u, .u, .u, .u, .u, .u, .u, .u, .u, .u, .u, .u, .u], []⟩)]⟩], false⟩
  | _, _ => ⟨[], [], false⟩
theorem lchains_q : (fun (a0 : Option (List V)) (a1 : List UInt8) => stN tab0_33 code lchains_n FU 24 5 [.a (.v (.sl a0)), .a (.v (.str a1))] [] lchains_k) = (fun (a0 : Option (List V)) (a1 : List UInt8) => lchains a0 a1) := by kernel_rfl
noncomputable def tab0_34 : ToldK := addTo tab0_33 5 lchains_e
theorem lchains_h : EntryOK tab0_33 code lchains_n FU 24 5 lchains_e := by
  intro args os t h
  unfold lchains_e at h
  split at h
  · rename_i os0 a0 a1
    cases h
    exact ⟨_, _, fun p => (.bool p), lchains_k, ids_all rfl, fun _ _ => rfl, (congrFun (congrFun lchains_q _) _), fun sv os p hp => by
      unfold lchains_k at hp
      split at hp
      · have hp := dTy_ok hp
        split at hp
        · cases hp; exact ⟨rfl, rfl⟩
        · cases hp
      · cases hp⟩
  · cases h
/-! cubit/cubitlaw15.refused -/
noncomputable def rrefused (a0 : List UInt8) (a1 : Int) (a2 : Int) : Option (Bool) :=
((rlload a0).bind fun x0 =>
(cond (x0.1.isNone)
(cond (x0.2.1 == a1)
(some ((x0.2.2 == a2)))
(some (false)))
(some (false))))
noncomputable def rrefused_e : List SV → Objs → Option ((β : Type) → (SV → Objs → Option β) → Option β)
  | [.a (.v (.str a0)), .a (.v (.int .i64 a1)), .a (.v (.int .i64 a2))], os => some fun _ K => (rrefused a0 a1 a2).bind fun p => K (.a (.v (.bool p))) os
  | _, _ => none
noncomputable def rrefused_k (sv : SV) (os : Objs) : Option (Bool) := match sv, os with
  | .a (.v v), [] => dTy (.t1 (.k .bool)) v fun v => (match v with | (.bool r0) => some (r0) | _ => none)
  | _, _ => none
noncomputable def rrefused_n : FuncId → Nat → Ann := fun f n => match f, n with
  | _, _ => ⟨[], [], false⟩
theorem rrefused_q : (fun (a0 : List UInt8) (a1 : Int) (a2 : Int) => stN tab0_34 code rrefused_n FU 24 23 [.a (.v (.str a0)), .a (.v (.int .i64 a1)), .a (.v (.int .i64 a2))] [] rrefused_k) = (fun (a0 : List UInt8) (a1 : Int) (a2 : Int) => rrefused a0 a1 a2) := by kernel_rfl
noncomputable def tab0_35 : ToldK := addTo tab0_34 23 rrefused_e
theorem rrefused_h : EntryOK tab0_34 code rrefused_n FU 24 23 rrefused_e := by
  intro args os t h
  unfold rrefused_e at h
  split at h
  · rename_i os0 a0 a1 a2
    cases h
    exact ⟨_, _, fun p => (.bool p), rrefused_k, ids_all rfl, fun _ _ => rfl, (congrFun (congrFun (congrFun rrefused_q _) _) _), fun sv os p hp => by
      unfold rrefused_k at hp
      split at hp
      · have hp := dTy_ok hp
        split at hp
        · cases hp; exact ⟨rfl, rfl⟩
        · cases hp
      · cases hp⟩
  · cases h
end Go.Proofs.YtbppinniokmdnaaDoor.gd
