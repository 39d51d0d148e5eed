/- The staged evaluator over the program, in normal form: printed by a program (sym.lean), each held against it by the kernel. -/
import Derived.Test.YtmlhdhndjgdoaaaGreatDoorCuCpC
namespace Go.Proofs.YtmlhdhndjgdoaaaGreatDoor.cp
open Go Go.Ev
set_option maxRecDepth 1000000
set_option linter.unusedVariables false
set_option maxHeartbeats 4000000

noncomputable def masLow_r : List V := [(.bool false), (.bool false), (.bool false), (.bool false), (.bool false), (.bool false), (.bool false), (.bool false), (.bool false), (.bool false), (.bool false), (.bool false), (.bool false), (.bool false), (.bool false), (.bool false), (.bool false), (.bool false), (.bool false), (.bool false), (.bool false), (.bool false), (.bool false), (.bool false), (.bool false), (.bool false), (.bool false), (.bool false), (.bool false), (.bool false), (.bool false), (.bool false), (.bool false), (.bool false), (.bool false), (.bool false), (.bool false), (.bool false), (.bool false), (.bool false), (.bool false), (.bool false), (.bool false), (.bool false), (.bool false), (.bool false), (.bool false), (.bool false), (.bool false), (.bool false), (.bool false), (.bool false), (.bool false), (.bool false), (.bool false), (.bool false), (.bool false), (.bool false), (.bool false), (.bool false), (.bool false), (.bool false), (.bool false), (.bool false), (.bool false), (.bool false), (.bool false), (.bool false), (.bool false), (.bool false), (.bool false), (.bool false), (.bool false), (.bool false), (.bool false), (.bool false), (.bool false), (.bool false), (.bool false), (.bool false), (.bool false), (.bool false), (.bool false), (.bool false), (.bool false), (.bool false), (.bool false), (.bool false), (.bool false), (.bool false), (.bool false), (.bool false), (.bool false), (.bool false), (.bool false), (.bool false), (.bool false), (.bool true), (.bool true), (.bool true), (.bool true), (.bool true), (.bool true), (.bool true), (.bool true), (.bool true), (.bool true), (.bool true), (.bool true), (.bool true), (.bool true), (.bool true), (.bool true), (.bool true), (.bool true), (.bool true), (.bool true), (.bool true), (.bool true), (.bool true), (.bool true), (.bool true), (.bool true), (.bool false), (.bool false), (.bool false), (.bool false), (.bool false), (.bool false), (.bool false), (.bool false), (.bool false), (.bool false), (.bool false), (.bool false), (.bool false), (.bool false), (.bool false), (.bool false), (.bool false), (.bool false), (.bool false), (.bool false), (.bool false), (.bool false), (.bool false), (.bool false), (.bool false), (.bool false), (.bool false), (.bool false), (.bool false), (.bool false), (.bool false), (.bool false), (.bool false), (.bool false), (.bool false), (.bool false), (.bool false), (.bool false), (.bool false), (.bool false), (.bool false), (.bool false), (.bool false), (.bool false), (.bool false), (.bool false), (.bool false), (.bool false), (.bool false), (.bool false), (.bool false), (.bool false), (.bool false), (.bool false), (.bool false), (.bool false), (.bool false), (.bool false), (.bool false), (.bool false), (.bool false), (.bool false), (.bool false), (.bool false), (.bool false), (.bool false), (.bool false), (.bool false), (.bool false), (.bool false), (.bool false), (.bool false), (.bool false), (.bool false), (.bool false), (.bool false), (.bool false), (.bool false), (.bool false), (.bool false), (.bool false), (.bool false), (.bool false), (.bool false), (.bool false), (.bool false), (.bool false), (.bool false), (.bool false), (.bool false), (.bool false), (.bool false), (.bool false), (.bool false), (.bool false), (.bool false), (.bool false), (.bool false), (.bool false), (.bool false), (.bool false), (.bool false), (.bool false), (.bool false), (.bool false), (.bool false), (.bool false), (.bool false), (.bool false), (.bool false), (.bool false), (.bool false), (.bool false), (.bool false), (.bool false), (.bool false), (.bool false), (.bool false), (.bool false), (.bool false), (.bool false), (.bool false), (.bool false), (.bool false), (.bool false), (.bool false), (.bool false), (.bool false), (.bool false), (.bool false), (.bool false), (.bool false), (.bool false)]
noncomputable def masName_r : List V := [(.bool false), (.bool false), (.bool false), (.bool false), (.bool false), (.bool false), (.bool false), (.bool false), (.bool false), (.bool false), (.bool false), (.bool false), (.bool false), (.bool false), (.bool false), (.bool false), (.bool false), (.bool false), (.bool false), (.bool false), (.bool false), (.bool false), (.bool false), (.bool false), (.bool false), (.bool false), (.bool false), (.bool false), (.bool false), (.bool false), (.bool false), (.bool false), (.bool false), (.bool false), (.bool false), (.bool false), (.bool false), (.bool false), (.bool false), (.bool false), (.bool false), (.bool false), (.bool false), (.bool false), (.bool false), (.bool true), (.bool false), (.bool false), (.bool true), (.bool true), (.bool true), (.bool true), (.bool true), (.bool true), (.bool true), (.bool true), (.bool true), (.bool true), (.bool false), (.bool false), (.bool false), (.bool false), (.bool false), (.bool false), (.bool false), (.bool false), (.bool false), (.bool false), (.bool false), (.bool false), (.bool false), (.bool false), (.bool false), (.bool false), (.bool false), (.bool false), (.bool false), (.bool false), (.bool false), (.bool false), (.bool false), (.bool false), (.bool false), (.bool false), (.bool false), (.bool false), (.bool false), (.bool false), (.bool false), (.bool false), (.bool false), (.bool false), (.bool false), (.bool false), (.bool false), (.bool false), (.bool false), (.bool true), (.bool true), (.bool true), (.bool true), (.bool true), (.bool true), (.bool true), (.bool true), (.bool true), (.bool true), (.bool true), (.bool true), (.bool true), (.bool true), (.bool true), (.bool true), (.bool true), (.bool true), (.bool true), (.bool true), (.bool true), (.bool true), (.bool true), (.bool true), (.bool true), (.bool true), (.bool false), (.bool false), (.bool false), (.bool false), (.bool false), (.bool false), (.bool false), (.bool false), (.bool false), (.bool false), (.bool false), (.bool false), (.bool false), (.bool false), (.bool false), (.bool false), (.bool false), (.bool false), (.bool false), (.bool false), (.bool false), (.bool false), (.bool false), (.bool false), (.bool false), (.bool false), (.bool false), (.bool false), (.bool false), (.bool false), (.bool false), (.bool false), (.bool false), (.bool false), (.bool false), (.bool false), (.bool false), (.bool false), (.bool false), (.bool false), (.bool false), (.bool false), (.bool false), (.bool false), (.bool false), (.bool false), (.bool false), (.bool false), (.bool false), (.bool false), (.bool false), (.bool false), (.bool false), (.bool false), (.bool false), (.bool false), (.bool false), (.bool false), (.bool false), (.bool false), (.bool false), (.bool false), (.bool false), (.bool false), (.bool false), (.bool false), (.bool false), (.bool false), (.bool false), (.bool false), (.bool false), (.bool false), (.bool false), (.bool false), (.bool false), (.bool false), (.bool false), (.bool false), (.bool false), (.bool false), (.bool false), (.bool false), (.bool false), (.bool false), (.bool false), (.bool false), (.bool false), (.bool false), (.bool false), (.bool false), (.bool false), (.bool false), (.bool false), (.bool false), (.bool false), (.bool false), (.bool false), (.bool false), (.bool false), (.bool false), (.bool false), (.bool false), (.bool false), (.bool false), (.bool false), (.bool false), (.bool false), (.bool false), (.bool false), (.bool false), (.bool false), (.bool false), (.bool false), (.bool false), (.bool false), (.bool false), (.bool false), (.bool false), (.bool false), (.bool false), (.bool false), (.bool false), (.bool false), (.bool false), (.bool false), (.bool false), (.bool false), (.bool false), (.bool false), (.bool false), (.bool false), (.bool false), (.bool false)]
/-! strings.makeASCIISet -/
noncomputable def masLow_e : EntryT
  | [.a (.v (.str s0))], os => if s0 = [97, 98, 99, 100, 101, 102, 103, 104, 105, 106, 107, 108, 109, 110, 111, 112, 113, 114, 115, 116, 117, 118, 119, 120, 121, 122] then some fun _ K => K (.a (.v (.tup [(.agg masLow_r), (.bool true)]))) os else none
  | _, _ => none
theorem masLow_q : callM (toE tab0) code FU 24 43 [.a (.v (.str [97, 98, 99, 100, 101, 102, 103, 104, 105, 106, 107, 108, 109, 110, 111, 112, 113, 114, 115, 116, 117, 118, 119, 120, 121, 122]))] [] = some ⟨.a (.v (.tup [(.agg masLow_r), (.bool true)])), []⟩ := by kernel_rfl
noncomputable def tab0_1 : ToldK := addTo tab0 43 masLow_e
theorem masLow_h : EntryEv tab0 code FU 24 43 masLow_e := by
  intro args os t h
  unfold masLow_e at h
  split at h
  · split at h
    · rename_i hc
      cases h
      subst hc
      exact ⟨(.tup [(.agg masLow_r), (.bool true)]), ids_all rfl, fun _ _ => rfl, masLow_q⟩
    · cases h
  · cases h
/-! strings.makeASCIISet -/
noncomputable def masName_e : EntryT
  | [.a (.v (.str s0))], os => if s0 = [97, 98, 99, 100, 101, 102, 103, 104, 105, 106, 107, 108, 109, 110, 111, 112, 113, 114, 115, 116, 117, 118, 119, 120, 121, 122, 48, 49, 50, 51, 52, 53, 54, 55, 56, 57, 45] then some fun _ K => K (.a (.v (.tup [(.agg masName_r), (.bool true)]))) os else none
  | _, _ => none
theorem masName_q : callM (toE tab0_1) code FU 24 43 [.a (.v (.str [97, 98, 99, 100, 101, 102, 103, 104, 105, 106, 107, 108, 109, 110, 111, 112, 113, 114, 115, 116, 117, 118, 119, 120, 121, 122, 48, 49, 50, 51, 52, 53, 54, 55, 56, 57, 45]))] [] = some ⟨.a (.v (.tup [(.agg masName_r), (.bool true)])), []⟩ := by kernel_rfl
noncomputable def tab0_2 : ToldK := addTo tab0_1 43 masName_e
theorem masName_h : EntryEv tab0_1 code FU 24 43 masName_e := by
  intro args os t h
  unfold masName_e at h
  split at h
  · split at h
    · rename_i hc
      cases h
      subst hc
      exact ⟨(.tup [(.agg masName_r), (.bool true)]), ids_all rfl, fun _ _ => rfl, masName_q⟩
    · cases h
  · cases h
/-! cubit/rows.words -/
noncomputable def rwords_L0 (v : Vs) : Option (Vs ⊕ Vs) := sel v.1 [((asSl? (hV v.2 0)).bind fun x1 =>
((asInt? .i64 (hV v.2 1)).bind fun x2 =>
((asInt? .i64 (hV v.2 2)).bind fun x3 =>
(cond (decide (x3 < x2))
((idxL (x1.getD []) x3).bind fun x4 =>
((asStr? x4).bind fun x5 =>
(cond (decide ((((x5 : List UInt8).length : Nat) : Int) ≥ 1))
((cutL none (some 1) x5).bind fun x6 =>
(cond (x6 == [35])
(some (.inr (0, [])))
(cond (!(x5 == []))
(some (.inl (1, [(.v (.sl x1)), (.v (.int .i64 x2)), (.v (.int .i64 (IntKind.wrap .i64 (x3 + 1)))), (.l [(.str x5)])])))
(some (.inl (0, [(.v (.sl x1)), (.v (.int .i64 x2)), (.v (.int .i64 (IntKind.wrap .i64 (x3 + 1))))]))))))
(cond (!(x5 == []))
(some (.inl (1, [(.v (.sl x1)), (.v (.int .i64 x2)), (.v (.int .i64 (IntKind.wrap .i64 (x3 + 1)))), (.l [(.str x5)])])))
(some (.inl (0, [(.v (.sl x1)), (.v (.int .i64 x2)), (.v (.int .i64 (IntKind.wrap .i64 (x3 + 1))))])))))))
(some (.inr (0, []))))))),
((asSl? (hV v.2 0)).bind fun x7 =>
((asInt? .i64 (hV v.2 1)).bind fun x8 =>
((asInt? .i64 (hV v.2 2)).bind fun x9 =>
(cond (decide (x9 < x8))
((idxL (x7.getD []) x9).bind fun x10 =>
((asStr? x10).bind fun x11 =>
(cond (decide ((((x11 : List UInt8).length : Nat) : Int) ≥ 1))
((cutL none (some 1) x11).bind fun x12 =>
(cond (x12 == [35])
(some (.inr (1, [(.l (hL v.2 3))])))
(cond (!(x11 == []))
(chk ((fits ((hL v.2 3).length + 1)) && true)
(some (.inl (1, [(.v (.sl x7)), (.v (.int .i64 x8)), (.v (.int .i64 (IntKind.wrap .i64 (x9 + 1)))), (.l ((hL v.2 3) ++ [(.str x11)] : List V))]))))
(some (.inl (1, [(.v (.sl x7)), (.v (.int .i64 x8)), (.v (.int .i64 (IntKind.wrap .i64 (x9 + 1)))), (.l (hL v.2 3))]))))))
(cond (!(x11 == []))
(chk ((fits ((hL v.2 3).length + 1)) && true)
(some (.inl (1, [(.v (.sl x7)), (.v (.int .i64 x8)), (.v (.int .i64 (IntKind.wrap .i64 (x9 + 1)))), (.l ((hL v.2 3) ++ [(.str x11)] : List V))]))))
(some (.inl (1, [(.v (.sl x7)), (.v (.int .i64 x8)), (.v (.int .i64 (IntKind.wrap .i64 (x9 + 1)))), (.l (hL v.2 3))])))))))
(some (.inr (1, [(.l (hL v.2 3))])))))))]
noncomputable def rwords (a0 : List UInt8) : Option (Option (List V)) :=
((spl a0 [32]).bind fun x0 =>
((loopK rwords_L0 FU (0, [(.v (.sl x0)), (.v (.int .i64 ((slLen x0 : Nat) : Int))), (.v (.int .i64 0))])).bind fun x13 => sel x13.1 [(some (none)),
(some ((some (hL x13.2 0))))]))
noncomputable def rwords_e : List SV → Objs → Option ((β : Type) → (SV → Objs → Option β) → Option β)
  | [.a (.v (.str a0))], os => some fun _ K => (rwords a0).bind fun p => K (.a (.v (.sl p))) os
  | _, _ => none
noncomputable def rwords_k (sv : SV) (os : Objs) : Option (Option (List V)) := match sv, os with
  | .a (.v v), [] => dTy (.t1 (.k .sl)) v fun v => (match v with | (.sl r0) => some (r0) | _ => none)
  | _, _ => none
noncomputable def rwords_n : FuncId → Nat → Ann := fun f n => match f, n with
  | 69, 0 => ⟨[(11, (.t1 (.k .str)))], [⟨[⟨[.u, .u, .u, .a (.nil), .u, .u, .u, .a (.h (.t1 (.k .sl))), .a (.h (.t1 (.k (.int .i64)))), .a (.h (.t1 (.k (.int .i64)))), .u, .u, .u, .u, .u, .u, .u, .u, .u, .u, .u, .u, .u], []⟩, ⟨[.u, .u, .u, .a (.own 0), .u, .u, .u, .a (.h (.t1 (.k .sl))), .a (.h (.t1 (.k (.int .i64)))), .a (.h (.t1 (.k (.int .i64)))), .u, .u, .u, .u, .u, .u, .u, .u, .u, .u, .u, .u, .u], [.ext 9 1]⟩], [((.ex 0), ⟨[.u, .u, .u, .a (.nil), .u, .u, .u, .u, .u, .u, .u, .u, .u, .u, .u, .u, .u, .u, .u, .u, .u, .u, .u], []⟩), ((.ex 0), ⟨[.u, .u, .u, .a (.own 0), .u, .u, .u, .u, .u, .u, .u, .u, .u, .u, .u, .u, .u, .u, .u, .u, .u, .u, .u], [.ext 9 1]⟩)]⟩], false⟩
  | _, _ => ⟨[], [], false⟩
theorem rwords_q : (fun (a0 : List UInt8) => stN tab0_2 code rwords_n FU 24 69 [.a (.v (.str a0))] [] rwords_k) = (fun (a0 : List UInt8) => rwords a0) := by kernel_rfl
noncomputable def tab0_3 : ToldK := addTo tab0_2 69 rwords_e
theorem rwords_h : EntryOK tab0_2 code rwords_n FU 24 69 rwords_e := by
  intro args os t h
  unfold rwords_e at h
  split at h
  · rename_i os0 a0
    cases h
    exact ⟨_, _, fun p => (.sl p), rwords_k, ids_all rfl, fun _ _ => rfl, (congrFun rwords_q _), fun sv os p hp => by
      unfold rwords_k at hp
      split at hp
      · have hp := dTy_ok hp
        split at hp
        · cases hp; exact ⟨rfl, rfl⟩
        · cases hp
      · cases hp⟩
  · cases h
/-! cubit/rows.odd -/
noncomputable def rodd (a0 : Int) : Option (Bool) :=
(cond (decide (a0 < 32))
(some (true))
(some ((decide (a0 > 126)))))
noncomputable def rodd_e : List SV → Objs → Option ((β : Type) → (SV → Objs → Option β) → Option β)
  | [.a (.v (.int .i32 a0))], os => some fun _ K => (rodd a0).bind fun p => K (.a (.v (.bool p))) os
  | _, _ => none
noncomputable def rodd_k (sv : SV) (os : Objs) : Option (Bool) := match sv, os with
  | .a (.v v), [] => dTy (.t1 (.k .bool)) v fun v => (match v with | (.bool r0) => some (r0) | _ => none)
  | _, _ => none
noncomputable def rodd_n : FuncId → Nat → Ann := fun f n => match f, n with
  | _, _ => ⟨[], [], false⟩
theorem rodd_q : (fun (a0 : Int) => stN tab0_3 code rodd_n FU 24 71 [.a (.v (.int .i32 a0))] [] rodd_k) = (fun (a0 : Int) => rodd a0) := by kernel_rfl
noncomputable def tab0_4 : ToldK := addTo tab0_3 71 rodd_e
theorem rodd_h : EntryOK tab0_3 code rodd_n FU 24 71 rodd_e := by
  intro args os t h
  unfold rodd_e at h
  split at h
  · rename_i os0 a0
    cases h
    exact ⟨_, _, fun p => (.bool p), rodd_k, ids_all rfl, fun _ _ => rfl, (congrFun rodd_q _), fun sv os p hp => by
      unfold rodd_k at hp
      split at hp
      · have hp := dTy_ok hp
        split at hp
        · cases hp; exact ⟨rfl, rfl⟩
        · cases hp
      · cases hp⟩
  · cases h
/-! strings.indexFunc -/
noncomputable def sif_L0 (v : Vs) : Option (Vs ⊕ Vs) := sel v.1 [((asBool? (hV v.2 0)).bind fun x0 =>
(cond (decide ((hN v.2 2) < ((hS v.2 1) : List UInt8).length))
((rodd (Utf8.decode ⟨((hS v.2 1) : List UInt8).toArray⟩ (hN v.2 2)).1).bind fun x1 =>
(cond (x1 == x0)
(some (.inr (0, [(.v (.int .i64 (((hN v.2 2) : Nat) : Int)))])))
(some (.inl (0, [(.v (.bool x0)), (.s (hS v.2 1)), (.n ((hN v.2 2) + (Utf8.decode ⟨((hS v.2 1) : List UInt8).toArray⟩ (hN v.2 2)).2))])))))
(some (.inr (1, [])))))]
noncomputable def sif (a0 : List UInt8) (a1 : Bool) : Option (Int) :=
((loopK sif_L0 FU (0, [(.v (.bool a1)), (.s a0), (.n 0)])).bind fun x2 => sel x2.1 [((asInt? .i64 (hV x2.2 0)).bind fun x3 =>
(some (x3))),
(some ((-1)))])
noncomputable def sif_e : List SV → Objs → Option ((β : Type) → (SV → Objs → Option β) → Option β)
  | [.a (.v (.str a0)), .clo 71 [] [], .a (.v (.bool a1))], os => some fun _ K => (sif a0 a1).bind fun p => K (.a (.v (.int .i64 p))) os
  | _, _ => none
noncomputable def sif_k (sv : SV) (os : Objs) : Option (Int) := match sv, os with
  | .a (.v v), [] => dTy (.t1 (.k (.int .i64))) v fun v => (match v with | (.int .i64 r0) => some (r0) | _ => none)
  | _, _ => none
noncomputable def sif_n : FuncId → Nat → Ann := fun f n => match f, n with
  | 115, 0 => ⟨[], [⟨[⟨[.u, .clo 71 [] [], .a (.h (.t1 (.k .bool))), .u, .u, .u, .u, .u, .u, .u, .a (.itr 0), .u, .u, .u, .u, .u, .u, .u, .u, .u, .u], [.iter]⟩], [(.ret, ⟨[.u, .u, .u, .u, .u, .u, .a (.h (.t1 (.k (.int .i64)))), .u, .u, .u, .u, .u, .u, .u, .u, .u, .u, .u, .u, .u, .u], []⟩), ((.ex 0), ⟨[.u, .u, .u, .u, .u, .u, .u, .u, .u, .u, .u, .u, .u, .u, .u, .u, .u, .u, .u, .u, .u], []⟩)]⟩], false⟩
  | _, _ => ⟨[], [], false⟩
theorem sif_q : (fun (a0 : List UInt8) (a1 : Bool) => stN tab0_4 code sif_n FU 24 115 [.a (.v (.str a0)), .clo 71 [] [], .a (.v (.bool a1))] [] sif_k) = (fun (a0 : List UInt8) (a1 : Bool) => sif a0 a1) := by kernel_rfl
noncomputable def tab0_5 : ToldK := addTo tab0_4 115 sif_e
theorem sif_h : EntryOK tab0_4 code sif_n FU 24 115 sif_e := by
  intro args os t h
  unfold sif_e at h
  split at h
  · rename_i os0 a0 a1
    cases h
    exact ⟨_, _, fun p => (.int .i64 p), sif_k, ids_all rfl, fun _ _ => rfl, (congrFun (congrFun sif_q _) _), fun sv os p hp => by
      unfold sif_k at hp
      split at hp
      · have hp := dTy_ok hp
        split at hp
        · cases hp; exact ⟨rfl, rfl⟩
        · cases hp
      · cases hp⟩
  · cases h
/-! strings.IndexFunc -/
noncomputable def sIf (a0 : List UInt8) : Option (Int) :=
((sif a0 true).bind fun x0 =>
(some (x0)))
noncomputable def sIf_e : List SV → Objs → Option ((β : Type) → (SV → Objs → Option β) → Option β)
  | [.a (.v (.str a0)), .clo 71 [] []], os => some fun _ K => (sIf a0).bind fun p => K (.a (.v (.int .i64 p))) os
  | _, _ => none
noncomputable def sIf_k (sv : SV) (os : Objs) : Option (Int) := match sv, os with
  | .a (.v v), [] => dTy (.t1 (.k (.int .i64))) v fun v => (match v with | (.int .i64 r0) => some (r0) | _ => none)
  | _, _ => none
noncomputable def sIf_n : FuncId → Nat → Ann := fun f n => match f, n with
  | _, _ => ⟨[], [], false⟩
theorem sIf_q : (fun (a0 : List UInt8) => stN tab0_5 code sIf_n FU 24 96 [.a (.v (.str a0)), .clo 71 [] []] [] sIf_k) = (fun (a0 : List UInt8) => sIf a0) := by kernel_rfl
noncomputable def tab0_6 : ToldK := addTo tab0_5 96 sIf_e
theorem sIf_h : EntryOK tab0_5 code sIf_n FU 24 96 sIf_e := by
  intro args os t h
  unfold sIf_e at h
  split at h
  · rename_i os0 a0
    cases h
    exact ⟨_, _, fun p => (.int .i64 p), sIf_k, ids_all rfl, fun _ _ => rfl, (congrFun sIf_q _), fun sv os p hp => by
      unfold sIf_k at hp
      split at hp
      · have hp := dTy_ok hp
        split at hp
        · cases hp; exact ⟨rfl, rfl⟩
        · cases hp
      · cases hp⟩
  · cases h
/-! strings.ContainsFunc -/
noncomputable def scf (a0 : List UInt8) : Option (Bool) :=
((sIf a0).bind fun x0 =>
(some ((decide (x0 ≥ 0)))))
noncomputable def scf_e : List SV → Objs → Option ((β : Type) → (SV → Objs → Option β) → Option β)
  | [.a (.v (.str a0)), .clo 71 [] []], os => some fun _ K => (scf a0).bind fun p => K (.a (.v (.bool p))) os
  | _, _ => none
noncomputable def scf_k (sv : SV) (os : Objs) : Option (Bool) := match sv, os with
  | .a (.v v), [] => dTy (.t1 (.k .bool)) v fun v => (match v with | (.bool r0) => some (r0) | _ => none)
  | _, _ => none
noncomputable def scf_n : FuncId → Nat → Ann := fun f n => match f, n with
  | _, _ => ⟨[], [], false⟩
theorem scf_q : (fun (a0 : List UInt8) => stN tab0_6 code scf_n FU 24 70 [.a (.v (.str a0)), .clo 71 [] []] [] scf_k) = (fun (a0 : List UInt8) => scf a0) := by kernel_rfl
noncomputable def tab0_7 : ToldK := addTo tab0_6 70 scf_e
theorem scf_h : EntryOK tab0_6 code scf_n FU 24 70 scf_e := by
  intro args os t h
  unfold scf_e at h
  split at h
  · rename_i os0 a0
    cases h
    exact ⟨_, _, fun p => (.bool p), scf_k, ids_all rfl, fun _ _ => rfl, (congrFun scf_q _), fun sv os p hp => by
      unfold scf_k at hp
      split at hp
      · have hp := dTy_ok hp
        split at hp
        · cases hp; exact ⟨rfl, rfl⟩
        · cases hp
      · cases hp⟩
  · cases h
/-! cubit/rows.Parse -/
noncomputable def rparse_L0 (v : Vs) : Option (Vs ⊕ Vs) := sel v.1 [((asSl? (hV v.2 0)).bind fun x1 =>
((asInt? .i64 (hV v.2 1)).bind fun x2 =>
((asInt? .i64 (hV v.2 2)).bind fun x3 =>
(cond (decide (x3 < x2))
((idxL (x1.getD []) x3).bind fun x4 =>
((asStr? x4).bind fun x5 =>
((rwords x5).bind fun x6 =>
((scf x5).bind fun x7 =>
(cond x7
(cond x7
(some (.inr (0, [(.v (.int .i64 (IntKind.wrap .i64 (x3 + 1)))), (.v (.int .i64 2))])))
(cond (((slLen x6 : Nat) : Int) == 0)
(some (.inl (0, [(.v (.sl x1)), (.v (.int .i64 x2)), (.v (.int .i64 (IntKind.wrap .i64 (x3 + 1))))])))
(some (.inl (1, [(.v (.sl x1)), (.v (.int .i64 x2)), (.v (.int .i64 (IntKind.wrap .i64 (x3 + 1)))), (.l [(.agg [(.int .i64 (IntKind.wrap .i64 (x3 + 1))), (.sl x6)])])])))))
(cond (decide (((slLen x6 : Nat) : Int) > 24))
(some (.inr (0, [(.v (.int .i64 (IntKind.wrap .i64 (x3 + 1)))), (.v (.int .i64 2))])))
(cond (((slLen x6 : Nat) : Int) == 0)
(some (.inl (0, [(.v (.sl x1)), (.v (.int .i64 x2)), (.v (.int .i64 (IntKind.wrap .i64 (x3 + 1))))])))
(some (.inl (1, [(.v (.sl x1)), (.v (.int .i64 x2)), (.v (.int .i64 (IntKind.wrap .i64 (x3 + 1)))), (.l [(.agg [(.int .i64 (IntKind.wrap .i64 (x3 + 1))), (.sl x6)])])]))))))))))
(some (.inr (1, []))))))),
((asSl? (hV v.2 0)).bind fun x8 =>
((asInt? .i64 (hV v.2 1)).bind fun x9 =>
((asInt? .i64 (hV v.2 2)).bind fun x10 =>
(cond (decide (x10 < x9))
((idxL (x8.getD []) x10).bind fun x11 =>
((asStr? x11).bind fun x12 =>
((rwords x12).bind fun x13 =>
((scf x12).bind fun x14 =>
(cond x14
(cond x14
(some (.inr (0, [(.v (.int .i64 (IntKind.wrap .i64 (x10 + 1)))), (.v (.int .i64 2))])))
(cond (((slLen x13 : Nat) : Int) == 0)
(some (.inl (1, [(.v (.sl x8)), (.v (.int .i64 x9)), (.v (.int .i64 (IntKind.wrap .i64 (x10 + 1)))), (.l (hL v.2 3))])))
(cond ((((hL v.2 3).length : Nat) : Int) == 2000)
(some (.inr (0, [(.v (.int .i64 (IntKind.wrap .i64 (x10 + 1)))), (.v (.int .i64 11))])))
(chk ((fits ((hL v.2 3).length + 1)) && true)
(some (.inl (1, [(.v (.sl x8)), (.v (.int .i64 x9)), (.v (.int .i64 (IntKind.wrap .i64 (x10 + 1)))), (.l ((hL v.2 3) ++ [(.agg [(.int .i64 (IntKind.wrap .i64 (x10 + 1))), (.sl x13)])] : List V))])))))))
(cond (decide (((slLen x13 : Nat) : Int) > 24))
(some (.inr (0, [(.v (.int .i64 (IntKind.wrap .i64 (x10 + 1)))), (.v (.int .i64 2))])))
(cond (((slLen x13 : Nat) : Int) == 0)
(some (.inl (1, [(.v (.sl x8)), (.v (.int .i64 x9)), (.v (.int .i64 (IntKind.wrap .i64 (x10 + 1)))), (.l (hL v.2 3))])))
(cond ((((hL v.2 3).length : Nat) : Int) == 2000)
(some (.inr (0, [(.v (.int .i64 (IntKind.wrap .i64 (x10 + 1)))), (.v (.int .i64 11))])))
(chk ((fits ((hL v.2 3).length + 1)) && true)
(some (.inl (1, [(.v (.sl x8)), (.v (.int .i64 x9)), (.v (.int .i64 (IntKind.wrap .i64 (x10 + 1)))), (.l ((hL v.2 3) ++ [(.agg [(.int .i64 (IntKind.wrap .i64 (x10 + 1))), (.sl x13)])] : List V))]))))))))))))
(some (.inr (2, [(.l (hL v.2 3))])))))))]
noncomputable def rparse (a0 : List UInt8) : Option (Option (List V) × Int × Int) :=
(cond (decide ((((a0 : List UInt8).length : Nat) : Int) > 65536))
(some (none, 0, 11))
((spl a0 [10]).bind fun x0 =>
((loopK rparse_L0 FU (0, [(.v (.sl x0)), (.v (.int .i64 ((slLen x0 : Nat) : Int))), (.v (.int .i64 0))])).bind fun x15 => sel x15.1 [((asInt? .i64 (hV x15.2 0)).bind fun x16 =>
((asInt? .i64 (hV x15.2 1)).bind fun x17 =>
(some (none, x16, x17)))),
(some (none, 0, 0)),
(some ((some (hL x15.2 0)), 0, 0))])))
noncomputable def rparse_e : List SV → Objs → Option ((β : Type) → (SV → Objs → Option β) → Option β)
  | [.a (.v (.str a0))], os => some fun _ K => (rparse a0).bind fun p => K (.a (.v (.tup [(.sl p.1), (.int .i64 p.2.1), (.int .i64 p.2.2)]))) os
  | _, _ => none
noncomputable def rparse_k (sv : SV) (os : Objs) : Option (Option (List V) × Int × Int) := match sv, os with
  | .a (.v v), [] => dTy (.tup [(.k .sl), (.k (.int .i64)), (.k (.int .i64))]) v fun v => (match v with | (.tup [(.sl r0), (.int .i64 r1), (.int .i64 r2)]) => some (r0, r1, r2) | _ => none)
  | _, _ => none
noncomputable def rparse_n : FuncId → Nat → Ann := fun f n => match f, n with
  | 40, 0 => ⟨[(18, (.t1 (.k .str)))], [⟨[⟨[.u, .u, .u, .u, .u, .a (.nil), .u, .u, .u, .u, .u, .u, .u, .a (.h (.t1 (.k .sl))), .a (.h (.t1 (.k (.int .i64)))), .a (.h (.t1 (.k (.int .i64)))), .u, .u, .u, .u, .u, .u, .u, .u, .u, .u, .u, .u, .u, .u, .u, .u, .u, .u, .u, .u, .u, .u, .u, .u, .u, .u, .u, .u, .u, .u, .u, .u, .u], []⟩, ⟨[.u, .u, .u, .u, .u, .a (.own 0), .u, .u, .u, .u, .u, .u, .u, .a (.h (.t1 (.k .sl))), .a (.h (.t1 (.k (.int .i64)))), .a (.h (.t1 (.k (.int .i64)))), .u, .u, .u, .u, .u, .u, .u, .u, .u, .u, .u, .u, .u, .u, .u, .u, .u, .u, .u, .u, .u, .u, .u, .u, .u, .u, .u, .u, .u, .u, .u, .u, .u], [.ext 64 2]⟩], [(.ret, ⟨[.u, .u, .a (.nil), .a (.h (.t1 (.k (.int .i64)))), .a (.h (.t1 (.k (.int .i64)))), .u, .u, .u, .u, .u, .u, .u, .u, .u, .u, .u, .u, .u, .u, .u, .u, .u, .u, .u, .u, .u, .u, .u, .u, .u, .u, .u, .u, .u, .u, .u, .u, .u, .u, .u, .u, .u, .u, .u, .u, .u, .u, .u, .u], []⟩), ((.ex 0), ⟨[.u, .u, .u, .u, .u, .a (.nil), .u, .u, .u, .u, .u, .u, .u, .u, .u, .u, .u, .u, .u, .u, .u, .u, .u, .u, .u, .u, .u, .u, .u, .u, .u, .u, .u, .u, .u, .u, .u, .u, .u, .u, .u, .u, .u, .u, .u, .u, .u, .u, .u], []⟩), ((.ex 0), ⟨[.u, .u, .u, .u, .u, .a (.own 0), .u, .u, .u, .u, .u, .u, .u, .u, .u, .u, .u, .u, .u, .u, .u, .u, .u, .u, .u, .u, .u, .u, .u, .u, .u, .u, .u, .u, .u, .u, .u, .u, .u, .u, .u, .u, .u, .u, .u, .u, .u, .u, .u], [.ext 64 2]⟩)]⟩], false⟩
  | _, _ => ⟨[], [], false⟩
theorem rparse_q : (fun (a0 : List UInt8) => stN tab0_7 code rparse_n FU 24 40 [.a (.v (.str a0))] [] rparse_k) = (fun (a0 : List UInt8) => rparse a0) := by kernel_rfl
noncomputable def tab0_8 : ToldK := addTo tab0_7 40 rparse_e
theorem rparse_h : EntryOK tab0_7 code rparse_n FU 24 40 rparse_e := by
  intro args os t h
  unfold rparse_e at h
  split at h
  · rename_i os0 a0
    cases h
    exact ⟨_, _, fun p => (.tup [(.sl p.1), (.int .i64 p.2.1), (.int .i64 p.2.2)]), rparse_k, ids_all rfl, fun _ _ => rfl, (congrFun rparse_q _), fun sv os p hp => by
      unfold rparse_k at hp
      split at hp
      · have hp := dTy_ok hp
        split at hp
        · cases hp; exact ⟨rfl, rfl⟩
        · cases hp
      · cases hp⟩
  · cases h
/-! cubit/gender.cutLeft -/
noncomputable abbrev cutLeft := Go.Ev.cutLeft
noncomputable def cutLeft_e : List SV → Objs → Option ((β : Type) → (SV → Objs → Option β) → Option β)
  | [.a (.v (.str a0)), .a (.v (.str a1))], os => some fun _ K => (cutLeft a0 a1).bind fun p => K (.a (.v (.str p))) os
  | _, _ => none
noncomputable def cutLeft_k (sv : SV) (os : Objs) : Option (List UInt8) := match sv, os with
  | .a (.v v), [] => dTy (.t1 (.k .str)) v fun v => (match v with | (.str r0) => some (r0) | _ => none)
  | _, _ => none
noncomputable def cutLeft_n : FuncId → Nat → Ann := fun f n => match f, n with
  | 90, 0 => ⟨[], [⟨[⟨[.a (.h (.t1 (.k .str))), .a (.h (.t1 (.k .str))), .u, .u, .u, .u, .u, .u, .u, .u, .u, .a (.itr 0), .u, .u, .u, .u, .u, .u, .u, .u, .u, .u, .u, .u, .u, .u, .u, .u, .u, .u, .u, .u], [.iter]⟩], [(.ret, ⟨[.u, .u, .u, .u, .a (.h (.t1 (.k .str))), .u, .u, .u, .u, .u, .u, .u, .u, .u, .u, .u, .u, .u, .u, .u, .u, .u, .u, .u, .u, .u, .u, .u, .u, .u, .u, .u], []⟩), ((.ex 0), ⟨[.u, .u, .u, .u, .u, .u, .u, .u, .u, .u, .u, .u, .u, .u, .u, .u, .u, .u, .u, .u, .u, .u, .u, .u, .u, .u, .u, .u, .u, .u, .u, .u], []⟩)]⟩, ⟨[⟨[.a (.h (.t1 (.k .str))), .a (.h (.t1 (.k .str))), .u, .u, .u, .a (.h (.t1 (.k (.int .i64)))), .a (.h (.t1 (.k (.int .i32)))), .a (.h (.t1 (.k .bool))), .u, .u, .u, .a (.itr 0), .u, .u, .u, .u, .u, .a (.itr 1), .u, .u, .u, .u, .u, .u, .u, .u, .u, .u, .u, .u, .u, .u], [.iter, .iter]⟩], [((.ex 2), ⟨[.a (.h (.t1 (.k .str))), .a (.h (.t1 (.k .str))), .u, .u, .u, .a (.h (.t1 (.k (.int .i64)))), .u, .a (.h (.t1 (.k .bool))), .u, .u, .u, .a (.itr 0), .u, .u, .u, .u, .u, .u, .u, .u, .u, .u, .u, .u, .u, .u, .u, .u, .u, .u, .u, .u], [.iter]⟩)]⟩], false⟩
  | _, _ => ⟨[], [], false⟩
theorem cutLeft_q : (fun (a0 : List UInt8) (a1 : List UInt8) => stN tab0_8 code cutLeft_n FU 24 90 [.a (.v (.str a0)), .a (.v (.str a1))] [] cutLeft_k) = (fun (a0 : List UInt8) (a1 : List UInt8) => cutLeft a0 a1) := by kernel_rfl
noncomputable def tab0_9 : ToldK := addTo tab0_8 90 cutLeft_e
theorem cutLeft_h : EntryOK tab0_8 code cutLeft_n FU 24 90 cutLeft_e := by
  intro args os t h
  unfold cutLeft_e at h
  split at h
  · rename_i os0 a0 a1
    cases h
    exact ⟨_, _, fun p => (.str p), cutLeft_k, ids_all rfl, fun _ _ => rfl, (congrFun (congrFun cutLeft_q _) _), fun sv os p hp => by
      unfold cutLeft_k at hp
      split at hp
      · have hp := dTy_ok hp
        split at hp
        · cases hp; exact ⟨rfl, rfl⟩
        · cases hp
      · cases hp⟩
  · cases h
/-! cubit/gender.cutRight -/
noncomputable abbrev cutRight := Go.Ev.cutRight
noncomputable def cutRight_e : List SV → Objs → Option ((β : Type) → (SV → Objs → Option β) → Option β)
  | [.a (.v (.str a0)), .a (.v (.str a1))], os => some fun _ K => (cutRight a0 a1).bind fun p => K (.a (.v (.str p))) os
  | _, _ => none
noncomputable def cutRight_k (sv : SV) (os : Objs) : Option (List UInt8) := match sv, os with
  | .a (.v v), [] => dTy (.t1 (.k .str)) v fun v => (match v with | (.str r0) => some (r0) | _ => none)
  | _, _ => none
noncomputable def cutRight_n : FuncId → Nat → Ann := fun f n => match f, n with
  | 89, 0 => ⟨[], [⟨[⟨[.a (.h (.t1 (.k .str))), .a (.h (.t1 (.k .str))), .u, .u, .u, .u, .u, .u, .u, .u, .u, .u, .u, .u, .u, .u, .u, .u, .u, .u, .u, .u, .u, .u, .u, .u, .u, .u, .u, .u, .u, .u, .u, .u, .u, .u, .u, .u, .u], []⟩], [(.ret, ⟨[.u, .u, .u, .u, .a (.h (.t1 (.k .str))), .u, .u, .u, .u, .u, .u, .u, .u, .u, .u, .u, .u, .u, .u, .u, .u, .u, .u, .u, .u, .u, .u, .u, .u, .u, .u, .u, .u, .u, .u, .u, .u, .u, .u], []⟩), ((.ex 0), ⟨[.a (.h (.t1 (.k .str))), .u, .u, .u, .u, .u, .u, .u, .u, .u, .u, .u, .u, .u, .u, .u, .u, .u, .u, .u, .u, .u, .u, .u, .u, .u, .u, .u, .u, .u, .u, .u, .u, .u, .u, .u, .u, .u, .u], []⟩)]⟩, ⟨[⟨[.a (.h (.t1 (.k .str))), .a (.h (.t1 (.k .str))), .u, .u, .u, .a (.h (.t1 (.k (.int .i32)))), .a (.h (.t1 (.k (.int .i64)))), .a (.h (.t1 (.k .bool))), .u, .u, .u, .u, .u, .u, .u, .u, .u, .u, .u, .a (.itr 0), .u, .u, .u, .u, .u, .u, .u, .u, .u, .u, .u, .u, .u, .u, .u, .u, .u, .u, .u], [.iter]⟩], [((.ex 2), ⟨[.a (.h (.t1 (.k .str))), .a (.h (.t1 (.k .str))), .u, .u, .u, .u, .a (.h (.t1 (.k (.int .i64)))), .a (.h (.t1 (.k .bool))), .u, .u, .u, .u, .u, .u, .u, .u, .u, .u, .u, .u, .u, .u, .u, .u, .u, .u, .u, .u, .u, .u, .u, .u, .u, .u, .u, .u, .u, .u, .u], []⟩)]⟩], false⟩
  | _, _ => ⟨[], [], false⟩
theorem cutRight_q : (fun (a0 : List UInt8) (a1 : List UInt8) => stN tab0_9 code cutRight_n FU 24 89 [.a (.v (.str a0)), .a (.v (.str a1))] [] cutRight_k) = (fun (a0 : List UInt8) (a1 : List UInt8) => cutRight a0 a1) := by kernel_rfl
noncomputable def tab0_10 : ToldK := addTo tab0_9 89 cutRight_e
theorem cutRight_h : EntryOK tab0_9 code cutRight_n FU 24 89 cutRight_e := by
  intro args os t h
  unfold cutRight_e at h
  split at h
  · rename_i os0 a0 a1
    cases h
    exact ⟨_, _, fun p => (.str p), cutRight_k, ids_all rfl, fun _ _ => rfl, (congrFun (congrFun cutRight_q _) _), fun sv os p hp => by
      unfold cutRight_k at hp
      split at hp
      · have hp := dTy_ok hp
        split at hp
        · cases hp; exact ⟨rfl, rfl⟩
        · cases hp
      · cases hp⟩
  · cases h
/-! cubit/gender.of -/
noncomputable def gof (a0 : List UInt8) (a1 : List UInt8) : Option (Bool) :=
(cond (!(a0 == []))
((cutLeft a0 a1).bind fun x0 =>
((cutRight x0 a1).bind fun x1 =>
(some ((x1 == [])))))
(some (false)))
noncomputable def gof_e : List SV → Objs → Option ((β : Type) → (SV → Objs → Option β) → Option β)
  | [.a (.v (.str a0)), .a (.v (.str a1))], os => some fun _ K => (gof a0 a1).bind fun p => K (.a (.v (.bool p))) os
  | _, _ => none
noncomputable def gof_k (sv : SV) (os : Objs) : Option (Bool) := match sv, os with
  | .a (.v v), [] => dTy (.t1 (.k .bool)) v fun v => (match v with | (.bool r0) => some (r0) | _ => none)
  | _, _ => none
noncomputable def gof_n : FuncId → Nat → Ann := fun f n => match f, n with
  | _, _ => ⟨[], [], false⟩
theorem gof_q : (fun (a0 : List UInt8) (a1 : List UInt8) => stN tab0_10 code gof_n FU 24 60 [.a (.v (.str a0)), .a (.v (.str a1))] [] gof_k) = (fun (a0 : List UInt8) (a1 : List UInt8) => gof a0 a1) := by kernel_rfl
noncomputable def tab0_11 : ToldK := addTo tab0_10 60 gof_e
theorem gof_h : EntryOK tab0_10 code gof_n FU 24 60 gof_e := by
  intro args os t h
  unfold gof_e at h
  split at h
  · rename_i os0 a0 a1
    cases h
    exact ⟨_, _, fun p => (.bool p), gof_k, ids_all rfl, fun _ _ => rfl, (congrFun (congrFun gof_q _) _), fun sv os p hp => by
      unfold gof_k at hp
      split at hp
      · have hp := dTy_ok hp
        split at hp
        · cases hp; exact ⟨rfl, rfl⟩
        · cases hp
      · cases hp⟩
  · cases h
/-! cubit/rows.Of -/
noncomputable def rowsOf_L0 (v : Vs) : Option (Vs ⊕ Vs) := sel v.1 [((asStr? (hV v.2 0)).bind fun x0 =>
((asSl? (hV v.2 1)).bind fun x1 =>
((asInt? .i64 (hV v.2 2)).bind fun x2 =>
((asInt? .i64 (hV v.2 3)).bind fun x3 =>
(cond (decide (x3 < x2))
((idxL (x1.getD []) x3).bind fun x4 =>
((asAgg? 2 x4).bind fun x5 =>
((asInt? .i64 (x5.getD 0 .nilp)).bind fun x6 =>
((asSl? (x5.getD 1 .nilp)).bind fun x7 =>
(cond (decide (((slLen x7 : Nat) : Int) > 0))
((idxL (x7.getD []) 0).bind fun x8 =>
((asStr? x8).bind fun x9 =>
(cond (x9 == x0)
((nilS x7).bind fun x10 =>
(cond x10
(some (.inl (1, [(.v (.str x0)), (.v (.sl x1)), (.v (.int .i64 x2)), (.v (.int .i64 (IntKind.wrap .i64 (x3 + 1)))), (.l [(.agg [(.int .i64 x6), (.sl none)])])])))
(chk ((fits (0 + (x7.getD []).length)) && ((x7.getD []).all (okEl 1)))
(some (.inl (1, [(.v (.str x0)), (.v (.sl x1)), (.v (.int .i64 x2)), (.v (.int .i64 (IntKind.wrap .i64 (x3 + 1)))), (.l [(.agg [(.int .i64 x6), (.sl (some ([] ++ (x7.getD []) : List V)))])])]))))))
(some (.inl (0, [(.v (.str x0)), (.v (.sl x1)), (.v (.int .i64 x2)), (.v (.int .i64 (IntKind.wrap .i64 (x3 + 1))))]))))))
(some (.inl (0, [(.v (.str x0)), (.v (.sl x1)), (.v (.int .i64 x2)), (.v (.int .i64 (IntKind.wrap .i64 (x3 + 1))))]))))))))
(some (.inr (0, [])))))))),
((asStr? (hV v.2 0)).bind fun x11 =>
((asSl? (hV v.2 1)).bind fun x12 =>
((asInt? .i64 (hV v.2 2)).bind fun x13 =>
((asInt? .i64 (hV v.2 3)).bind fun x14 =>
(cond (decide (x14 < x13))
((idxL (x12.getD []) x14).bind fun x15 =>
((asAgg? 2 x15).bind fun x16 =>
((asInt? .i64 (x16.getD 0 .nilp)).bind fun x17 =>
((asSl? (x16.getD 1 .nilp)).bind fun x18 =>
(cond (decide (((slLen x18 : Nat) : Int) > 0))
((idxL (x18.getD []) 0).bind fun x19 =>
((asStr? x19).bind fun x20 =>
(cond (x20 == x11)
((nilS x18).bind fun x21 =>
(cond x21
(chk ((fits ((hL v.2 4).length + 1)) && true)
(some (.inl (1, [(.v (.str x11)), (.v (.sl x12)), (.v (.int .i64 x13)), (.v (.int .i64 (IntKind.wrap .i64 (x14 + 1)))), (.l ((hL v.2 4) ++ [(.agg [(.int .i64 x17), (.sl none)])] : List V))]))))
(chk ((fits (0 + (x18.getD []).length)) && ((x18.getD []).all (okEl 1)))
(chk ((fits ((hL v.2 4).length + 1)) && true)
(some (.inl (1, [(.v (.str x11)), (.v (.sl x12)), (.v (.int .i64 x13)), (.v (.int .i64 (IntKind.wrap .i64 (x14 + 1)))), (.l ((hL v.2 4) ++ [(.agg [(.int .i64 x17), (.sl (some ([] ++ (x18.getD []) : List V)))])] : List V))])))))))
(some (.inl (1, [(.v (.str x11)), (.v (.sl x12)), (.v (.int .i64 x13)), (.v (.int .i64 (IntKind.wrap .i64 (x14 + 1)))), (.l (hL v.2 4))]))))))
(some (.inl (1, [(.v (.str x11)), (.v (.sl x12)), (.v (.int .i64 x13)), (.v (.int .i64 (IntKind.wrap .i64 (x14 + 1)))), (.l (hL v.2 4))]))))))))
(some (.inr (1, [(.l (hL v.2 4))]))))))))]
noncomputable def rowsOf (a0 : Option (List V)) (a1 : List UInt8) : Option (Option (List V)) :=
((loopK rowsOf_L0 FU (0, [(.v (.str a1)), (.v (.sl a0)), (.v (.int .i64 ((slLen a0 : Nat) : Int))), (.v (.int .i64 0))])).bind fun x22 => sel x22.1 [(some (none)),
(some ((some (hL x22.2 0))))])
noncomputable def rowsOf_e : List SV → Objs → Option ((β : Type) → (SV → Objs → Option β) → Option β)
  | [.a (.v (.sl a0)), .a (.v (.str a1))], os => some fun _ K => (rowsOf a0 a1).bind fun p => K (.a (.v (.sl p))) os
  | _, _ => none
noncomputable def rowsOf_k (sv : SV) (os : Objs) : Option (Option (List V)) := match sv, os with
  | .a (.v v), [] => dTy (.t1 (.k .sl)) v fun v => (match v with | (.sl r0) => some (r0) | _ => none)
  | _, _ => none
noncomputable def rowsOf_n : FuncId → Nat → Ann := fun f n => match f, n with
  | 25, 0 => ⟨[(12, (.t1 (.agg [(.int .i64), .sl]))), (21, (.t1 (.k .str)))], [⟨[⟨[.u, .a (.h (.t1 (.k .str))), .u, .u, .u, .a (.nil), .u, .u, .a (.h (.t1 (.k .sl))), .a (.h (.t1 (.k (.int .i64)))), .a (.h (.t1 (.k (.int .i64)))), .u, .u, .u, .u, .u, .u, .u, .u, .u, .u, .u, .u, .u, .u, .u, .u, .u, .u, .u, .u, .u, .u, .u, .u, .u, .u], []⟩, ⟨[.u, .a (.h (.t1 (.k .str))), .u, .u, .u, .a (.own 0), .u, .u, .a (.h (.t1 (.k .sl))), .a (.h (.t1 (.k (.int .i64)))), .a (.h (.t1 (.k (.int .i64)))), .u, .u, .u, .u, .u, .u, .u, .u, .u, .u, .u, .u, .u, .u, .u, .u, .u, .u, .u, .u, .u, .u, .u, .u, .u, .u], [.ext 64 2]⟩], [((.ex 0), ⟨[.u, .u, .u, .u, .u, .a (.nil), .u, .u, .u, .u, .u, .u, .u, .u, .u, .u, .u, .u, .u, .u, .u, .u, .u, .u, .u, .u, .u, .u, .u, .u, .u, .u, .u, .u, .u, .u, .u], []⟩), ((.ex 0), ⟨[.u, .u, .u, .u, .u, .a (.own 0), .u, .u, .u, .u, .u, .u, .u, .u, .u, .u, .u, .u, .u, .u, .u, .u, .u, .u, .u, .u, .u, .u, .u, .u, .u, .u, .u, .u, .u, .u, .u], [.ext 64 2]⟩)]⟩], false⟩
  | _, _ => ⟨[], [], false⟩
theorem rowsOf_q : (fun (a0 : Option (List V)) (a1 : List UInt8) => stN tab0_11 code rowsOf_n FU 24 25 [.a (.v (.sl a0)), .a (.v (.str a1))] [] rowsOf_k) = (fun (a0 : Option (List V)) (a1 : List UInt8) => rowsOf a0 a1) := by kernel_rfl
noncomputable def tab0_12 : ToldK := addTo tab0_11 25 rowsOf_e
theorem rowsOf_h : EntryOK tab0_11 code rowsOf_n FU 24 25 rowsOf_e := by
  intro args os t h
  unfold rowsOf_e at h
  split at h
  · rename_i os0 a0 a1
    cases h
    exact ⟨_, _, fun p => (.sl p), rowsOf_k, ids_all rfl, fun _ _ => rfl, (congrFun (congrFun rowsOf_q _) _), fun sv os p hp => by
      unfold rowsOf_k at hp
      split at hp
      · have hp := dTy_ok hp
        split at hp
        · cases hp; exact ⟨rfl, rfl⟩
        · cases hp
      · cases hp⟩
  · cases h
/-! cubit/gender.Load -/
noncomputable def gload_L0 (v : Vs) : Option (Vs ⊕ Vs) := sel v.1 [((asSl? (hV v.2 0)).bind fun x1 =>
((asInt? .i64 (hV v.2 1)).bind fun x2 =>
((asInt? .i64 (hV v.2 2)).bind fun x3 =>
(cond (decide (x3 < x2))
((idxL (x1.getD []) x3).bind fun x4 =>
((asAgg? 2 x4).bind fun x5 =>
((asInt? .i64 (x5.getD 0 .nilp)).bind fun x6 =>
((asSl? (x5.getD 1 .nilp)).bind fun x7 =>
((cutSl 1 (some 1) none x7).bind fun x8 =>
(cond (((slLen x8 : Nat) : Int) != 3)
(some (.inr (0, [(.v (.int .i64 x6)), (.v (.int .i64 2))])))
((idxL (x8.getD []) 0).bind fun x9 =>
((asStr? x9).bind fun x10 =>
((gof x10 [97, 98, 99, 100, 101, 102, 103, 104, 105, 106, 107, 108, 109, 110, 111, 112, 113, 114, 115, 116, 117, 118, 119, 120, 121, 122]).bind fun x11 =>
(cond (!x11)
(some (.inr (0, [(.v (.int .i64 x6)), (.v (.int .i64 2))])))
((idxL (x8.getD []) 0).bind fun x12 =>
((asStr? x12).bind fun x13 =>
(cond (decide ((((x13 : List UInt8).length : Nat) : Int) < 2))
(some (.inr (0, [(.v (.int .i64 x6)), (.v (.int .i64 2))])))
((idxL (x8.getD []) 0).bind fun x14 =>
((asStr? x14).bind fun x15 =>
(cond (decide ((((x15 : List UInt8).length : Nat) : Int) > 3))
(some (.inr (0, [(.v (.int .i64 x6)), (.v (.int .i64 2))])))
((idxL (x8.getD []) 1).bind fun x16 =>
((asStr? x16).bind fun x17 =>
((gof x17 [97, 98, 99, 100, 101, 102, 103, 104, 105, 106, 107, 108, 109, 110, 111, 112, 113, 114, 115, 116, 117, 118, 119, 120, 121, 122, 48, 49, 50, 51, 52, 53, 54, 55, 56, 57]).bind fun x18 =>
(cond (!x18)
(some (.inr (0, [(.v (.int .i64 x6)), (.v (.int .i64 2))])))
((idxL (x8.getD []) 2).bind fun x19 =>
((asStr? x19).bind fun x20 =>
((gof x20 [97, 98, 99, 100, 101, 102, 103, 104, 105, 106, 107, 108, 109, 110, 111, 112, 113, 114, 115, 116, 117, 118, 119, 120, 121, 122, 48, 49, 50, 51, 52, 53, 54, 55, 56, 57]).bind fun x21 =>
(cond (!x21)
(some (.inr (0, [(.v (.int .i64 x6)), (.v (.int .i64 2))])))
((idxL (x8.getD []) 0).bind fun x22 =>
((asStr? x22).bind fun x23 =>
((idxL (x8.getD []) 1).bind fun x24 =>
((asStr? x24).bind fun x25 =>
((lookE ⟨true, [.s, .s]⟩ (.agg [(.str x23), (.str x25)]) (hM v.2 3)).bind fun x26 =>
((asStr? (x26.getD (.str []))).bind fun x27 =>
(cond (!(x27 == []))
(some (.inr (0, [(.v (.int .i64 x6)), (.v (.int .i64 10))])))
((idxL (x8.getD []) 2).bind fun x28 =>
((asStr? x28).bind fun x29 =>
(chk (fits ((hM v.2 3).length + 1))
((putE ⟨true, [.s, .s]⟩ (.agg [(.str x23), (.str x25)]) (T2.a (.v (.str x29))) (hM v.2 3)).bind fun x30 =>
(some (.inl (0, [(.v (.sl x1)), (.v (.int .i64 x2)), (.v (.int .i64 (IntKind.wrap .i64 (x3 + 1)))), (.m x30)]))))))))))))))))))))))))))))))))))))))
(some (.inr (1, [(.m (hM v.2 3))])))))))]
noncomputable def gload (a0 : Option (List V)) : Option (Option (List V) × Int × Int) :=
((rowsOf a0 [103, 101, 110, 100, 101, 114]).bind fun x0 =>
((loopK gload_L0 FU (0, [(.v (.sl x0)), (.v (.int .i64 ((slLen x0 : Nat) : Int))), (.v (.int .i64 0)), (.m [])])).bind fun x31 => sel x31.1 [((asInt? .i64 (hV x31.2 0)).bind fun x32 =>
((asInt? .i64 (hV x31.2 1)).bind fun x33 =>
(some (none, x32, x33)))),
((frzE (hM x31.2 0)).bind fun x34 =>
(some ((some [(.mp (some x34))]), 0, 0)))]))
noncomputable def gload_e : List SV → Objs → Option ((β : Type) → (SV → Objs → Option β) → Option β)
  | [.a (.v (.sl a0))], os => some fun _ K => (gload a0).bind fun p => K (.a (.v (.tup [(.pt p.1), (.int .i64 p.2.1), (.int .i64 p.2.2)]))) os
  | _, _ => none
noncomputable def gload_k (sv : SV) (os : Objs) : Option (Option (List V) × Int × Int) := match sv, os with
  | .a (.v v), [] => dTy (.tup [(.k .pt), (.k (.int .i64)), (.k (.int .i64))]) v fun v => (match v with | (.tup [(.pt r0), (.int .i64 r1), (.int .i64 r2)]) => some (r0, r1, r2) | _ => none)
  | _, _ => none
noncomputable def gload_n : FuncId → Nat → Ann := fun f n => match f, n with
  | 13, 0 => ⟨[(17, (.t1 (.agg [(.int .i64), .sl])))], [⟨[⟨[.u, .u, .u, .u, .u, .a (.loc 0 0), .u, .u, .u, .u, .u, .u, .u, .a (.h (.t1 (.k .sl))), .a (.h (.t1 (.k (.int .i64)))), .a (.h (.t1 (.k (.int .i64)))), .u, .u, .u, .u, .u, .u, .u, .u, .u, .u, .u, .u, .u, .u, .u], [.box 73 [.mapr 1], .map]⟩], [(.ret, ⟨[.u, .u, .a (.np), .a (.h (.t1 (.k (.int .i64)))), .a (.h (.t1 (.k (.int .i64)))), .u, .u, .u, .u, .u, .u, .u, .u, .u, .u, .u, .u, .u, .u, .u, .u, .u, .u, .u, .u, .u, .u, .u, .u, .u, .u], []⟩), ((.ex 0), ⟨[.u, .u, .u, .u, .u, .a (.loc 0 0), .u, .u, .u, .u, .u, .u, .u, .u, .u, .u, .u, .u, .u, .u, .u, .u, .u, .u, .u, .u, .u, .u, .u, .u, .u], [.box 73 [.mapr 1], .map]⟩)]⟩], true⟩
  | 26, 3 => ⟨[(11, (.t1 (.k .str))), (18, (.t1 (.k .str))), (25, (.t1 (.k .str))), (32, (.t1 (.k .str))), (39, (.t1 (.k .str))), (45, (.t1 (.k .str))), (48, (.t1 (.k .str))), (56, (.t1 (.k .str))), (64, (.t1 (.k .str)))], [], false⟩
  | _, _ => ⟨[], [], false⟩
theorem gload_q : (fun (a0 : Option (List V)) => stN tab0_12 code gload_n FU 24 13 [.a (.v (.sl a0))] [] gload_k) = (fun (a0 : Option (List V)) => gload a0) := by kernel_rfl
noncomputable def tab0_13 : ToldK := addTo tab0_12 13 gload_e
theorem gload_h : EntryOK tab0_12 code gload_n FU 24 13 gload_e := by
  intro args os t h
  unfold gload_e at h
  split at h
  · rename_i os0 a0
    cases h
    exact ⟨_, _, fun p => (.tup [(.pt p.1), (.int .i64 p.2.1), (.int .i64 p.2.2)]), gload_k, ids_all rfl, fun _ _ => rfl, (congrFun gload_q _), fun sv os p hp => by
      unfold gload_k at hp
      split at hp
      · have hp := dTy_ok hp
        split at hp
        · cases hp; exact ⟨rfl, rfl⟩
        · cases hp
      · cases hp⟩
  · cases h
/-! (*cubit/gender.Genders).Atom -/
noncomputable def gatom (a0 : Option (List V)) (a1 : List UInt8) (a2 : List UInt8) (a3 : List UInt8) (a4 : Int) : Option (List UInt8) :=
((asPtr? 1 (.pt a0)).bind fun x0 =>
((asMp? (x0.getD 0 .nilp)).bind fun x1 =>
((lookM ⟨true, [.s, .s]⟩ (.agg [(.str a1), (.str a3)]) x1).bind fun x2 =>
((asStr? (x2.getD (.str []))).bind fun x3 =>
(some (x3))))))
noncomputable def gatom_e : List SV → Objs → Option ((β : Type) → (SV → Objs → Option β) → Option β)
  | [.a (.v (.pt a0)), .a (.v (.str a1)), .a (.v (.agg [(.str a2), (.str a3), (.int .i64 a4)]))], os => some fun _ K => (gatom a0 a1 a2 a3 a4).bind fun p => K (.a (.v (.str p))) os
  | _, _ => none
noncomputable def gatom_k (sv : SV) (os : Objs) : Option (List UInt8) := match sv, os with
  | .a (.v v), [] => dTy (.t1 (.k .str)) v fun v => (match v with | (.str r0) => some (r0) | _ => none)
  | _, _ => none
noncomputable def gatom_n : FuncId → Nat → Ann := fun f n => match f, n with
  | 39, 0 => ⟨[(8, (.ptr [.mp])), (9, (.ptr [.mp])), (15, (.t1 (.k .str)))], [], false⟩
  | _, _ => ⟨[], [], false⟩
theorem gatom_q : (fun (a0 : Option (List V)) (a1 : List UInt8) (a2 : List UInt8) (a3 : List UInt8) (a4 : Int) => stN tab0_13 code gatom_n FU 24 39 [.a (.v (.pt a0)), .a (.v (.str a1)), .a (.v (.agg [(.str a2), (.str a3), (.int .i64 a4)]))] [] gatom_k) = (fun (a0 : Option (List V)) (a1 : List UInt8) (a2 : List UInt8) (a3 : List UInt8) (a4 : Int) => gatom a0 a1 a2 a3 a4) := by kernel_rfl
noncomputable def tab0_14 : ToldK := addTo tab0_13 39 gatom_e
theorem gatom_h : EntryOK tab0_13 code gatom_n FU 24 39 gatom_e := by
  intro args os t h
  unfold gatom_e at h
  split at h
  · rename_i os0 a0 a1 a2 a3 a4
    cases h
    exact ⟨_, _, fun p => (.str p), gatom_k, ids_all rfl, fun _ _ => rfl, (congrFun (congrFun (congrFun (congrFun (congrFun gatom_q _) _) _) _) _), fun sv os p hp => by
      unfold gatom_k at hp
      split at hp
      · have hp := dTy_ok hp
        split at hp
        · cases hp; exact ⟨rfl, rfl⟩
        · cases hp
      · cases hp⟩
  · cases h
/-! cubit/compose.Name -/
noncomputable def cname_L0 (v : Vs) : Option (Vs ⊕ Vs) := sel v.1 [((asStr? (hV v.2 0)).bind fun x1 =>
((asInt? .u8 (hV v.2 1)).bind fun x2 =>
(cond (decide ((((x1 : List UInt8).length : Nat) : Int) > 0))
((idxL x1 (IntKind.wrap .i64 ((((x1 : List UInt8).length : Nat) : Int) - 1))).bind fun x3 =>
(cond (((x3.toNat : Nat) : Int) == x2)
((cutL none (some (IntKind.wrap .i64 ((((x1 : List UInt8).length : Nat) : Int) - 1))) x1).bind fun x4 =>
(some (.inl (0, [(.v (.str x4)), (.v (.int .u8 x2))]))))
(some (.inr (0, [(.v (.str x1))])))))
(some (.inr (0, [(.v (.str x1))]))))))]
noncomputable def cname_L1 (v : Vs) : Option (Vs ⊕ Vs) := sel v.1 [((asStr? (hV v.2 0)).bind fun x7 =>
((asInt? .u8 (hV v.2 1)).bind fun x8 =>
(cond (decide ((((x7 : List UInt8).length : Nat) : Int) > 0))
((idxL x7 0).bind fun x9 =>
(cond (((x9.toNat : Nat) : Int) == x8)
((cutL (some 1) none x7).bind fun x10 =>
(some (.inl (0, [(.v (.str x10)), (.v (.int .u8 x8))]))))
(some (.inr (0, [(.v (.str x7))])))))
(some (.inr (0, [(.v (.str x7))]))))))]
noncomputable def cname (a0 : List UInt8) : Option (List UInt8) :=
((repl a0 [123, 48, 125] [] 1).bind fun x0 =>
(cond (x0 == [])
(some (x0))
((loopK cname_L0 FU (0, [(.v (.str x0)), (.v (.int .u8 32))])).bind fun x5 => sel x5.1 [((asStr? (hV x5.2 0)).bind fun x6 =>
((loopK cname_L1 FU (0, [(.v (.str x6)), (.v (.int .u8 32))])).bind fun x11 => sel x11.1 [((asStr? (hV x11.2 0)).bind fun x12 =>
(some (x12)))]))])))
noncomputable def cname_e : List SV → Objs → Option ((β : Type) → (SV → Objs → Option β) → Option β)
  | [.a (.v (.str a0))], os => some fun _ K => (cname a0).bind fun p => K (.a (.v (.str p))) os
  | _, _ => none
noncomputable def cname_k (sv : SV) (os : Objs) : Option (List UInt8) := match sv, os with
  | .a (.v v), [] => dTy (.t1 (.k .str)) v fun v => (match v with | (.str r0) => some (r0) | _ => none)
  | _, _ => none
noncomputable def cname_n : FuncId → Nat → Ann := fun f n => match f, n with
  | 42, 0 => ⟨[], [⟨[⟨[.a (.h (.t1 (.k .str))), .a (.h (.t1 (.k (.int .u8)))), .u, .u, .u, .u, .u, .u, .u, .u, .u, .u, .u, .u, .u, .u, .u, .u, .u, .u, .u, .u, .u], []⟩], [((.ex 0), ⟨[.a (.h (.t1 (.k .str))), .u, .u, .u, .u, .u, .u, .u, .u, .u, .u, .u, .u, .u, .u, .u, .u, .u, .u, .u, .u, .u, .u], []⟩)]⟩], false⟩
  | 41, 0 => ⟨[], [⟨[⟨[.a (.h (.t1 (.k .str))), .a (.h (.t1 (.k (.int .u8)))), .u, .u, .u, .u, .u, .u, .u, .u, .u, .u, .u, .u, .u, .u, .u], []⟩], [((.ex 0), ⟨[.a (.h (.t1 (.k .str))), .u, .u, .u, .u, .u, .u, .u, .u, .u, .u, .u, .u, .u, .u, .u, .u], []⟩)]⟩], false⟩
  | _, _ => ⟨[], [], false⟩
theorem cname_q : (fun (a0 : List UInt8) => stN tab0_14 code cname_n FU 24 7 [.a (.v (.str a0))] [] cname_k) = (fun (a0 : List UInt8) => cname a0) := by kernel_rfl
noncomputable def tab0_15 : ToldK := addTo tab0_14 7 cname_e
theorem cname_h : EntryOK tab0_14 code cname_n FU 24 7 cname_e := by
  intro args os t h
  unfold cname_e at h
  split at h
  · rename_i os0 a0
    cases h
    exact ⟨_, _, fun p => (.str p), cname_k, ids_all rfl, fun _ _ => rfl, (congrFun cname_q _), fun sv os p hp => by
      unfold cname_k at hp
      split at hp
      · have hp := dTy_ok hp
        split at hp
        · cases hp; exact ⟨rfl, rfl⟩
        · cases hp
      · cases hp⟩
  · cases h
/-! cubit/pattern.Fill -/
noncomputable def pfill_L0 (v : Vs) : Option (Vs ⊕ Vs) := sel v.1 [((asStr? (hV v.2 0)).bind fun x0 =>
((asSl? (hV v.2 1)).bind fun x1 =>
((asInt? .i64 (hV v.2 2)).bind fun x2 =>
(cond (decide (x2 < (((x0 : List UInt8).length : Nat) : Int)))
((cutL (some x2) (some (if (((x0 : List UInt8).length : Nat) : Int) < (IntKind.wrap .i64 (x2 + 3)) then (((x0 : List UInt8).length : Nat) : Int) else (IntKind.wrap .i64 (x2 + 3)))) x0).bind fun x3 =>
(cond ((((x3 : List UInt8).length : Nat) : Int) == 3)
((idxL x3 0).bind fun x4 =>
(cond (((x4.toNat : Nat) : Int) == 123)
((idxL x3 2).bind fun x5 =>
(cond (((x5.toNat : Nat) : Int) == 125)
((idxL x3 1).bind fun x6 =>
(cond (decide (((x6.toNat : Nat) : Int) ≥ 48))
((idxL x3 1).bind fun x7 =>
(cond (decide (((x7.toNat : Nat) : Int) ≤ 57))
((idxL x3 1).bind fun x8 =>
(cond (decide ((IntKind.wrap .i64 ((IntKind.wrap .u8 (((x8.toNat : Nat) : Int) - 48)))) < ((slLen x1 : Nat) : Int)))
((idxL x3 1).bind fun x9 =>
((idxL (x1.getD []) (IntKind.wrap .u8 (((x9.toNat : Nat) : Int) - 48))).bind fun x10 =>
((asStr? x10).bind fun x11 =>
(cond ((strV x11).isEmpty)
(some (.inl (1, [(.v (.str x0)), (.v (.sl x1)), (.v (.int .i64 (IntKind.wrap .i64 ((IntKind.wrap .i64 (x2 + 2)) + 1))))])))
(chk ((fits (strV x11).length) && ((strV x11).all (okEl 1)))
(some (.inl (2, [(.v (.str x0)), (.v (.sl x1)), (.v (.int .i64 (IntKind.wrap .i64 ((IntKind.wrap .i64 (x2 + 2)) + 1)))), (.l (strV x11))]))))))))
((idxL x0 x2).bind fun x12 =>
(some (.inl (2, [(.v (.str x0)), (.v (.sl x1)), (.v (.int .i64 (IntKind.wrap .i64 (x2 + 1)))), (.l [(.int .u8 ((x12.toNat : Nat) : Int))])]))))))
((idxL x0 x2).bind fun x13 =>
(some (.inl (2, [(.v (.str x0)), (.v (.sl x1)), (.v (.int .i64 (IntKind.wrap .i64 (x2 + 1)))), (.l [(.int .u8 ((x13.toNat : Nat) : Int))])]))))))
((idxL x0 x2).bind fun x14 =>
(some (.inl (2, [(.v (.str x0)), (.v (.sl x1)), (.v (.int .i64 (IntKind.wrap .i64 (x2 + 1)))), (.l [(.int .u8 ((x14.toNat : Nat) : Int))])]))))))
((idxL x0 x2).bind fun x15 =>
(some (.inl (2, [(.v (.str x0)), (.v (.sl x1)), (.v (.int .i64 (IntKind.wrap .i64 (x2 + 1)))), (.l [(.int .u8 ((x15.toNat : Nat) : Int))])]))))))
((idxL x0 x2).bind fun x16 =>
(some (.inl (2, [(.v (.str x0)), (.v (.sl x1)), (.v (.int .i64 (IntKind.wrap .i64 (x2 + 1)))), (.l [(.int .u8 ((x16.toNat : Nat) : Int))])]))))))
((idxL x0 x2).bind fun x17 =>
(some (.inl (2, [(.v (.str x0)), (.v (.sl x1)), (.v (.int .i64 (IntKind.wrap .i64 (x2 + 1)))), (.l [(.int .u8 ((x17.toNat : Nat) : Int))])]))))))
(some (.inr (0, []))))))),
((asStr? (hV v.2 0)).bind fun x18 =>
((asSl? (hV v.2 1)).bind fun x19 =>
((asInt? .i64 (hV v.2 2)).bind fun x20 =>
(cond (decide (x20 < (((x18 : List UInt8).length : Nat) : Int)))
((cutL (some x20) (some (if (((x18 : List UInt8).length : Nat) : Int) < (IntKind.wrap .i64 (x20 + 3)) then (((x18 : List UInt8).length : Nat) : Int) else (IntKind.wrap .i64 (x20 + 3)))) x18).bind fun x21 =>
(cond ((((x21 : List UInt8).length : Nat) : Int) == 3)
((idxL x21 0).bind fun x22 =>
(cond (((x22.toNat : Nat) : Int) == 123)
((idxL x21 2).bind fun x23 =>
(cond (((x23.toNat : Nat) : Int) == 125)
((idxL x21 1).bind fun x24 =>
(cond (decide (((x24.toNat : Nat) : Int) ≥ 48))
((idxL x21 1).bind fun x25 =>
(cond (decide (((x25.toNat : Nat) : Int) ≤ 57))
((idxL x21 1).bind fun x26 =>
(cond (decide ((IntKind.wrap .i64 ((IntKind.wrap .u8 (((x26.toNat : Nat) : Int) - 48)))) < ((slLen x19 : Nat) : Int)))
((idxL x21 1).bind fun x27 =>
((idxL (x19.getD []) (IntKind.wrap .u8 (((x27.toNat : Nat) : Int) - 48))).bind fun x28 =>
((asStr? x28).bind fun x29 =>
(cond ((strV x29).isEmpty)
(some (.inl (1, [(.v (.str x18)), (.v (.sl x19)), (.v (.int .i64 (IntKind.wrap .i64 ((IntKind.wrap .i64 (x20 + 2)) + 1))))])))
(chk ((fits (strV x29).length) && ((strV x29).all (okEl 1)))
(some (.inl (2, [(.v (.str x18)), (.v (.sl x19)), (.v (.int .i64 (IntKind.wrap .i64 ((IntKind.wrap .i64 (x20 + 2)) + 1)))), (.l (strV x29))]))))))))
((idxL x18 x20).bind fun x30 =>
(some (.inl (2, [(.v (.str x18)), (.v (.sl x19)), (.v (.int .i64 (IntKind.wrap .i64 (x20 + 1)))), (.l [(.int .u8 ((x30.toNat : Nat) : Int))])]))))))
((idxL x18 x20).bind fun x31 =>
(some (.inl (2, [(.v (.str x18)), (.v (.sl x19)), (.v (.int .i64 (IntKind.wrap .i64 (x20 + 1)))), (.l [(.int .u8 ((x31.toNat : Nat) : Int))])]))))))
((idxL x18 x20).bind fun x32 =>
(some (.inl (2, [(.v (.str x18)), (.v (.sl x19)), (.v (.int .i64 (IntKind.wrap .i64 (x20 + 1)))), (.l [(.int .u8 ((x32.toNat : Nat) : Int))])]))))))
((idxL x18 x20).bind fun x33 =>
(some (.inl (2, [(.v (.str x18)), (.v (.sl x19)), (.v (.int .i64 (IntKind.wrap .i64 (x20 + 1)))), (.l [(.int .u8 ((x33.toNat : Nat) : Int))])]))))))
((idxL x18 x20).bind fun x34 =>
(some (.inl (2, [(.v (.str x18)), (.v (.sl x19)), (.v (.int .i64 (IntKind.wrap .i64 (x20 + 1)))), (.l [(.int .u8 ((x34.toNat : Nat) : Int))])]))))))
((idxL x18 x20).bind fun x35 =>
(some (.inl (2, [(.v (.str x18)), (.v (.sl x19)), (.v (.int .i64 (IntKind.wrap .i64 (x20 + 1)))), (.l [(.int .u8 ((x35.toNat : Nat) : Int))])]))))))
(some (.inr (1, []))))))),
((asStr? (hV v.2 0)).bind fun x36 =>
((asSl? (hV v.2 1)).bind fun x37 =>
((asInt? .i64 (hV v.2 2)).bind fun x38 =>
(cond (decide (x38 < (((x36 : List UInt8).length : Nat) : Int)))
((cutL (some x38) (some (if (((x36 : List UInt8).length : Nat) : Int) < (IntKind.wrap .i64 (x38 + 3)) then (((x36 : List UInt8).length : Nat) : Int) else (IntKind.wrap .i64 (x38 + 3)))) x36).bind fun x39 =>
(cond ((((x39 : List UInt8).length : Nat) : Int) == 3)
((idxL x39 0).bind fun x40 =>
(cond (((x40.toNat : Nat) : Int) == 123)
((idxL x39 2).bind fun x41 =>
(cond (((x41.toNat : Nat) : Int) == 125)
((idxL x39 1).bind fun x42 =>
(cond (decide (((x42.toNat : Nat) : Int) ≥ 48))
((idxL x39 1).bind fun x43 =>
(cond (decide (((x43.toNat : Nat) : Int) ≤ 57))
((idxL x39 1).bind fun x44 =>
(cond (decide ((IntKind.wrap .i64 ((IntKind.wrap .u8 (((x44.toNat : Nat) : Int) - 48)))) < ((slLen x37 : Nat) : Int)))
((idxL x39 1).bind fun x45 =>
((idxL (x37.getD []) (IntKind.wrap .u8 (((x45.toNat : Nat) : Int) - 48))).bind fun x46 =>
((asStr? x46).bind fun x47 =>
(chk ((fits ((hL v.2 3).length + (strV x47).length)) && ((strV x47).all (okEl 1)))
(some (.inl (2, [(.v (.str x36)), (.v (.sl x37)), (.v (.int .i64 (IntKind.wrap .i64 ((IntKind.wrap .i64 (x38 + 2)) + 1)))), (.l ((hL v.2 3) ++ (strV x47) : List V))])))))))
((idxL x36 x38).bind fun x48 =>
(chk ((fits ((hL v.2 3).length + 1)) && true)
(some (.inl (2, [(.v (.str x36)), (.v (.sl x37)), (.v (.int .i64 (IntKind.wrap .i64 (x38 + 1)))), (.l ((hL v.2 3) ++ [(.int .u8 ((x48.toNat : Nat) : Int))] : List V))])))))))
((idxL x36 x38).bind fun x49 =>
(chk ((fits ((hL v.2 3).length + 1)) && true)
(some (.inl (2, [(.v (.str x36)), (.v (.sl x37)), (.v (.int .i64 (IntKind.wrap .i64 (x38 + 1)))), (.l ((hL v.2 3) ++ [(.int .u8 ((x49.toNat : Nat) : Int))] : List V))])))))))
((idxL x36 x38).bind fun x50 =>
(chk ((fits ((hL v.2 3).length + 1)) && true)
(some (.inl (2, [(.v (.str x36)), (.v (.sl x37)), (.v (.int .i64 (IntKind.wrap .i64 (x38 + 1)))), (.l ((hL v.2 3) ++ [(.int .u8 ((x50.toNat : Nat) : Int))] : List V))])))))))
((idxL x36 x38).bind fun x51 =>
(chk ((fits ((hL v.2 3).length + 1)) && true)
(some (.inl (2, [(.v (.str x36)), (.v (.sl x37)), (.v (.int .i64 (IntKind.wrap .i64 (x38 + 1)))), (.l ((hL v.2 3) ++ [(.int .u8 ((x51.toNat : Nat) : Int))] : List V))])))))))
((idxL x36 x38).bind fun x52 =>
(chk ((fits ((hL v.2 3).length + 1)) && true)
(some (.inl (2, [(.v (.str x36)), (.v (.sl x37)), (.v (.int .i64 (IntKind.wrap .i64 (x38 + 1)))), (.l ((hL v.2 3) ++ [(.int .u8 ((x52.toNat : Nat) : Int))] : List V))])))))))
((idxL x36 x38).bind fun x53 =>
(chk ((fits ((hL v.2 3).length + 1)) && true)
(some (.inl (2, [(.v (.str x36)), (.v (.sl x37)), (.v (.int .i64 (IntKind.wrap .i64 (x38 + 1)))), (.l ((hL v.2 3) ++ [(.int .u8 ((x53.toNat : Nat) : Int))] : List V))])))))))
(some (.inr (2, [(.l (hL v.2 3))])))))))]
noncomputable def pfill (a0 : List UInt8) (a1 : Option (List V)) : Option (List UInt8) :=
((loopK pfill_L0 FU (0, [(.v (.str a0)), (.v (.sl a1)), (.v (.int .i64 0))])).bind fun x54 => sel x54.1 [(some ([])),
(some ([])),
((bytesOf (hL x54.2 0)).bind fun x55 =>
(chk (decide (0 < (hL x54.2 0).length) && List.all (hL x54.2 0) okB)
(some (x55))))])
noncomputable def pfill_e : List SV → Objs → Option ((β : Type) → (SV → Objs → Option β) → Option β)
  | [.a (.v (.str a0)), .a (.v (.sl a1))], os => some fun _ K => (pfill a0 a1).bind fun p => K (.a (.v (.str p))) os
  | _, _ => none
noncomputable def pfill_k (sv : SV) (os : Objs) : Option (List UInt8) := match sv, os with
  | .a (.v v), [] => dTy (.t1 (.k .str)) v fun v => (match v with | (.str r0) => some (r0) | _ => none)
  | _, _ => none
noncomputable def pfill_n : FuncId → Nat → Ann := fun f n => match f, n with
  | 67, 0 => ⟨[(58, (.t1 (.k .str)))], [⟨[⟨[.a (.h (.t1 (.k .str))), .a (.h (.t1 (.k .sl))), .u, .u, .u, .a (.loc 0 0), .a (.h (.t1 (.k (.int .i64)))), .u, .u, .u, .u, .u, .u, .u, .u, .u, .u, .u, .u, .u, .u, .u, .u, .u, .u, .u, .u, .u, .u, .u, .u, .u, .u, .u, .u, .u, .u, .u, .u, .u, .u, .u, .u, .u, .u, .u, .u, .u, .u, .u, .u, .u, .u, .u, .u, .u, .u, .u, .u, .u, .u, .u, .u, .u, .u, .u, .u, .u], [.box 101 [.np, .nil]]⟩, ⟨[.a (.h (.t1 (.k .str))), .a (.h (.t1 (.k .sl))), .u, .u, .u, .a (.loc 0 0), .a (.h (.t1 (.k (.int .i64)))), .u, .u, .u, .u, .u, .u, .u, .u, .u, .u, .u, .u, .u, .u, .u, .u, .u, .u, .u, .u, .u, .u, .u, .u, .u, .u, .u, .u, .u, .u, .u, .u, .u, .u, .u, .u, .u, .u, .u, .u, .u, .u, .u, .u, .u, .u, .u, .u, .u, .u, .u, .u, .u, .u, .u, .u, .u, .u, .u, .u, .u], [.box 101 [.loc 0 0, .nil]]⟩, ⟨[.a (.h (.t1 (.k .str))), .a (.h (.t1 (.k .sl))), .u, .u, .u, .a (.loc 0 0), .a (.h (.t1 (.k (.int .i64)))), .u, .u, .u, .u, .u, .u, .u, .u, .u, .u, .u, .u, .u, .u, .u, .u, .u, .u, .u, .u, .u, .u, .u, .u, .u, .u, .u, .u, .u, .u, .u, .u, .u, .u, .u, .u, .u, .u, .u, .u, .u, .u, .u, .u, .u, .u, .u, .u, .u, .u, .u, .u, .u, .u, .u, .u, .u, .u, .u, .u, .u], [.box 101 [.loc 0 0, .own 1], .ext 5 1]⟩], [((.ex 0), ⟨[.u, .u, .u, .u, .u, .a (.loc 0 0), .u, .u, .u, .u, .u, .u, .u, .u, .u, .u, .u, .u, .u, .u, .u, .u, .u, .u, .u, .u, .u, .u, .u, .u, .u, .u, .u, .u, .u, .u, .u, .u, .u, .u, .u, .u, .u, .u, .u, .u, .u, .u, .u, .u, .u, .u, .u, .u, .u, .u, .u, .u, .u, .u, .u, .u, .u, .u, .u, .u, .u, .u], [.box 101 [.np, .nil]]⟩), ((.ex 0), ⟨[.u, .u, .u, .u, .u, .a (.loc 0 0), .u, .u, .u, .u, .u, .u, .u, .u, .u, .u, .u, .u, .u, .u, .u, .u, .u, .u, .u, .u, .u, .u, .u, .u, .u, .u, .u, .u, .u, .u, .u, .u, .u, .u, .u, .u, .u, .u, .u, .u, .u, .u, .u, .u, .u, .u, .u, .u, .u, .u, .u, .u, .u, .u, .u, .u, .u, .u, .u, .u, .u, .u], [.box 101 [.loc 0 0, .nil]]⟩), ((.ex 0), ⟨[.u, .u, .u, .u, .u, .a (.loc 0 0), .u, .u, .u, .u, .u, .u, .u, .u, .u, .u, .u, .u, .u, .u, .u, .u, .u, .u, .u, .u, .u, .u, .u, .u, .u, .u, .u, .u, .u, .u, .u, .u, .u, .u, .u, .u, .u, .u, .u, .u, .u, .u, .u, .u, .u, .u, .u, .u, .u, .u, .u, .u, .u, .u, .u, .u, .u, .u, .u, .u, .u, .u], [.box 101 [.loc 0 0, .own 1], .ext 5 1]⟩)]⟩], false⟩
  | _, _ => ⟨[], [], false⟩
theorem pfill_q : (fun (a0 : List UInt8) (a1 : Option (List V)) => stN tab0_15 code pfill_n FU 24 67 [.a (.v (.str a0)), .a (.v (.sl a1))] [] pfill_k) = (fun (a0 : List UInt8) (a1 : Option (List V)) => pfill a0 a1) := by kernel_rfl
noncomputable def tab0_16 : ToldK := addTo tab0_15 67 pfill_e
theorem pfill_h : EntryOK tab0_15 code pfill_n FU 24 67 pfill_e := by
  intro args os t h
  unfold pfill_e at h
  split at h
  · rename_i os0 a0 a1
    cases h
    exact ⟨_, _, fun p => (.str p), pfill_k, ids_all rfl, fun _ _ => rfl, (congrFun (congrFun pfill_q _) _), fun sv os p hp => by
      unfold pfill_k at hp
      split at hp
      · have hp := dTy_ok hp
        split at hp
        · cases hp; exact ⟨rfl, rfl⟩
        · cases hp
      · cases hp⟩
  · cases h
/-! cubit/pattern.Widths -/
noncomputable def pwidths (a0 : List UInt8) : Option (Option (List V)) :=
(cond (a0 == [110, 97, 114, 114, 111, 119])
(some ((some [(.str [110, 97, 114, 114, 111, 119]), (.str [115, 104, 111, 114, 116]), (.str [108, 111, 110, 103])])))
(cond (a0 == [115, 104, 111, 114, 116])
(some ((some [(.str [115, 104, 111, 114, 116]), (.str [108, 111, 110, 103])])))
(some ((some [(.str [108, 111, 110, 103])])))))
noncomputable def pwidths_e : List SV → Objs → Option ((β : Type) → (SV → Objs → Option β) → Option β)
  | [.a (.v (.str a0))], os => some fun _ K => (pwidths a0).bind fun p => K (.a (.v (.sl p))) os
  | _, _ => none
noncomputable def pwidths_k (sv : SV) (os : Objs) : Option (Option (List V)) := match sv, os with
  | .a (.v v), [] => dTy (.t1 (.k .sl)) v fun v => (match v with | (.sl r0) => some (r0) | _ => none)
  | _, _ => none
noncomputable def pwidths_n : FuncId → Nat → Ann := fun f n => match f, n with
  | _, _ => ⟨[], [], false⟩
theorem pwidths_q : (fun (a0 : List UInt8) => stN tab0_16 code pwidths_n FU 24 28 [.a (.v (.str a0))] [] pwidths_k) = (fun (a0 : List UInt8) => pwidths a0) := by kernel_rfl
noncomputable def tab0_17 : ToldK := addTo tab0_16 28 pwidths_e
theorem pwidths_h : EntryOK tab0_16 code pwidths_n FU 24 28 pwidths_e := by
  intro args os t h
  unfold pwidths_e at h
  split at h
  · rename_i os0 a0
    cases h
    exact ⟨_, _, fun p => (.sl p), pwidths_k, ids_all rfl, fun _ _ => rfl, (congrFun pwidths_q _), fun sv os p hp => by
      unfold pwidths_k at hp
      split at hp
      · have hp := dTy_ok hp
        split at hp
        · cases hp; exact ⟨rfl, rfl⟩
        · cases hp
      · cases hp⟩
  · cases h
/-! cubit/pattern.cats -/
noncomputable def pcats (a0 : List UInt8) (a1 : List UInt8) (a2 : List UInt8) (a3 : List UInt8) (a4 : List UInt8) (a5 : List UInt8) : Option (Option (List V)) :=
(cond (a0 == [119, 111, 114, 100])
(some ((some [(.str a4), (.str [111, 116, 104, 101, 114])])))
(cond (a0 == [112, 111, 119, 101, 114])
(some ((some [(.str a4), (.str [])])))
(some ((some [(.str a4)])))))
noncomputable def pcats_e : List SV → Objs → Option ((β : Type) → (SV → Objs → Option β) → Option β)
  | [.a (.v (.agg [(.str a0), (.str a1), (.str a2), (.str a3), (.str a4), (.str a5)]))], os => some fun _ K => (pcats a0 a1 a2 a3 a4 a5).bind fun p => K (.a (.v (.sl p))) os
  | _, _ => none
noncomputable def pcats_k (sv : SV) (os : Objs) : Option (Option (List V)) := match sv, os with
  | .a (.v v), [] => dTy (.t1 (.k .sl)) v fun v => (match v with | (.sl r0) => some (r0) | _ => none)
  | _, _ => none
noncomputable def pcats_n : FuncId → Nat → Ann := fun f n => match f, n with
  | _, _ => ⟨[], [], false⟩
theorem pcats_q : (fun (a0 : List UInt8) (a1 : List UInt8) (a2 : List UInt8) (a3 : List UInt8) (a4 : List UInt8) (a5 : List UInt8) => stN tab0_17 code pcats_n FU 24 29 [.a (.v (.agg [(.str a0), (.str a1), (.str a2), (.str a3), (.str a4), (.str a5)]))] [] pcats_k) = (fun (a0 : List UInt8) (a1 : List UInt8) (a2 : List UInt8) (a3 : List UInt8) (a4 : List UInt8) (a5 : List UInt8) => pcats a0 a1 a2 a3 a4 a5) := by kernel_rfl
noncomputable def tab0_18 : ToldK := addTo tab0_17 29 pcats_e
theorem pcats_h : EntryOK tab0_17 code pcats_n FU 24 29 pcats_e := by
  intro args os t h
  unfold pcats_e at h
  split at h
  · rename_i os0 a0 a1 a2 a3 a4 a5
    cases h
    exact ⟨_, _, fun p => (.sl p), pcats_k, ids_all rfl, fun _ _ => rfl, (congrFun (congrFun (congrFun (congrFun (congrFun (congrFun pcats_q _) _) _) _) _) _), fun sv os p hp => by
      unfold pcats_k at hp
      split at hp
      · have hp := dTy_ok hp
        split at hp
        · cases hp; exact ⟨rfl, rfl⟩
        · cases hp
      · cases hp⟩
  · cases h
/-! (*cubit/pattern.Words).Chain -/
noncomputable def pchain_L0 (v : Vs) : Option (Vs ⊕ Vs) := sel v.1 [((asPt? (hV v.2 0)).bind fun x0 =>
((asStr? (hV v.2 1)).bind fun x1 =>
((asBool? (hV v.2 2)).bind fun x2 =>
(cond x2
(cond (!(x1 == [114, 111, 111, 116]))
((asPtr? 2 (.pt x0)).bind fun x3 =>
((asMp? (x3.getD 0 .nilp)).bind fun x4 =>
((asMp? (x3.getD 1 .nilp)).bind fun x5 =>
((lookM ⟨false, [.s]⟩ (.str x1) x5).bind fun x6 =>
((asStr? (x6.getD (.str []))).bind fun x7 =>
(some (.inl (1, [(.v (.pt x0)), (.v (.str x7)), (.v (.bool (x6.isSome))), (.l [(.str x1)])]))))))))
(some (.inr (0, []))))
(some (.inr (0, []))))))),
((asPt? (hV v.2 0)).bind fun x8 =>
((asStr? (hV v.2 1)).bind fun x9 =>
((asBool? (hV v.2 2)).bind fun x10 =>
(cond x10
(cond (!(x9 == [114, 111, 111, 116]))
(chk ((fits ((hL v.2 3).length + 1)) && true)
((asPtr? 2 (.pt x8)).bind fun x11 =>
((asMp? (x11.getD 0 .nilp)).bind fun x12 =>
((asMp? (x11.getD 1 .nilp)).bind fun x13 =>
((lookM ⟨false, [.s]⟩ (.str x9) x13).bind fun x14 =>
((asStr? (x14.getD (.str []))).bind fun x15 =>
(some (.inl (1, [(.v (.pt x8)), (.v (.str x15)), (.v (.bool (x14.isSome))), (.l ((hL v.2 3) ++ [(.str x9)] : List V))])))))))))
(some (.inr (1, [(.l (hL v.2 3))]))))
(some (.inr (1, [(.l (hL v.2 3))])))))))]
noncomputable def pchain (a0 : Option (List V)) (a1 : List UInt8) : Option (Option (List V)) :=
((loopK pchain_L0 FU (0, [(.v (.pt a0)), (.v (.str a1)), (.v (.bool true))])).bind fun x16 => sel x16.1 [(some ((some [(.str [114, 111, 111, 116])]))),
(chk ((fits ((hL x16.2 0).length + 1)) && true)
(some ((some ((hL x16.2 0) ++ [(.str [114, 111, 111, 116])] : List V)))))])
noncomputable def pchain_e : List SV → Objs → Option ((β : Type) → (SV → Objs → Option β) → Option β)
  | [.a (.v (.pt a0)), .a (.v (.str a1))], os => some fun _ K => (pchain a0 a1).bind fun p => K (.a (.v (.sl p))) os
  | _, _ => none
noncomputable def pchain_k (sv : SV) (os : Objs) : Option (Option (List V)) := match sv, os with
  | .a (.v v), [] => dTy (.t1 (.k .sl)) v fun v => (match v with | (.sl r0) => some (r0) | _ => none)
  | _, _ => none
noncomputable def pchain_n : FuncId → Nat → Ann := fun f n => match f, n with
  | 27, 0 => ⟨[(14, (.ptr [.mp, .mp])), (15, (.ptr [.mp, .mp])), (18, (.tup [(.k .str), (.k .bool)]))], [⟨[⟨[.a (.h (.t1 (.k .pt))), .a (.h (.t1 (.k .str))), .u, .u, .u, .a (.nil), .a (.h (.t1 (.k .bool))), .u, .u, .u, .u, .u, .u, .u, .u, .u, .u, .u, .u, .u, .u, .u, .u, .u, .u, .u, .u, .u], []⟩, ⟨[.a (.h (.t1 (.k .pt))), .a (.h (.t1 (.k .str))), .u, .u, .u, .a (.own 0), .a (.h (.t1 (.k .bool))), .u, .u, .u, .u, .u, .u, .u, .u, .u, .u, .u, .u, .u, .u, .u, .u, .u, .u, .u, .u, .u], [.ext 9 1]⟩], [((.ex 0), ⟨[.u, .u, .u, .u, .u, .a (.nil), .u, .u, .u, .u, .u, .u, .u, .u, .u, .u, .u, .u, .u, .u, .u, .u, .u, .u, .u, .u, .u, .u], []⟩), ((.ex 0), ⟨[.u, .u, .u, .u, .u, .a (.own 0), .u, .u, .u, .u, .u, .u, .u, .u, .u, .u, .u, .u, .u, .u, .u, .u, .u, .u, .u, .u, .u, .u], [.ext 9 1]⟩)]⟩], false⟩
  | _, _ => ⟨[], [], false⟩
theorem pchain_q : (fun (a0 : Option (List V)) (a1 : List UInt8) => stN tab0_18 code pchain_n FU 24 27 [.a (.v (.pt a0)), .a (.v (.str a1))] [] pchain_k) = (fun (a0 : Option (List V)) (a1 : List UInt8) => pchain a0 a1) := by kernel_rfl
noncomputable def tab0_19 : ToldK := addTo tab0_18 27 pchain_e
theorem pchain_h : EntryOK tab0_18 code pchain_n FU 24 27 pchain_e := by
  intro args os t h
  unfold pchain_e at h
  split at h
  · rename_i os0 a0 a1
    cases h
    exact ⟨_, _, fun p => (.sl p), pchain_k, ids_all rfl, fun _ _ => rfl, (congrFun (congrFun pchain_q _) _), fun sv os p hp => by
      unfold pchain_k at hp
      split at hp
      · have hp := dTy_ok hp
        split at hp
        · cases hp; exact ⟨rfl, rfl⟩
        · cases hp
      · cases hp⟩
  · cases h
/-! (*cubit/pattern.Words).Find -/
noncomputable def pfind_L3 (v : Vs) : Option (Vs ⊕ Vs) := sel v.1 [((asPt? (hV v.2 0)).bind fun x50 =>
((asStr? (hV v.2 1)).bind fun x51 =>
((asStr? (hV v.2 2)).bind fun x52 =>
((asStr? (hV v.2 3)).bind fun x53 =>
((asSl? (hV v.2 4)).bind fun x54 =>
((asInt? .i64 (hV v.2 5)).bind fun x55 =>
((asInt? .i64 (hV v.2 6)).bind fun x56 =>
((asSl? (hV v.2 7)).bind fun x57 =>
((asInt? .i64 (hV v.2 8)).bind fun x58 =>
((asInt? .i64 (hV v.2 9)).bind fun x59 =>
((asInt? .i64 (hV v.2 10)).bind fun x60 =>
((asInt? .i64 (hV v.2 11)).bind fun x61 =>
((asSl? (hV v.2 12)).bind fun x62 =>
((asInt? .i64 (hV v.2 13)).bind fun x63 =>
((asInt? .i64 (hV v.2 14)).bind fun x64 =>
((asStr? (hV v.2 15)).bind fun x65 =>
((asStr? (hV v.2 16)).bind fun x66 =>
((asStr? (hV v.2 17)).bind fun x67 =>
((asStr? (hV v.2 18)).bind fun x68 =>
((asStr? (hV v.2 19)).bind fun x69 =>
((asStr? (hV v.2 20)).bind fun x70 =>
(cond (decide (x64 < x63))
((idxL (x62.getD []) x64).bind fun x71 =>
((asStr? x71).bind fun x72 =>
((asPtr? 2 (.pt x50)).bind fun x73 =>
((asMp? (x73.getD 0 .nilp)).bind fun x74 =>
((asMp? (x73.getD 1 .nilp)).bind fun x75 =>
((lookM ⟨true, [.s, .s, .s, .s, .s, .s]⟩ (.agg [(.str x65), (.str x51), (.str x52), (.str x68), (.str x72), (.str x53)]) x74).bind fun x76 =>
((asStr? (x76.getD (.str []))).bind fun x77 =>
(cond (x76.isSome)
(some (.inr (0, [(.v (.str x77)), (.v (.bool true))])))
(some (.inl (0, [(.v (.pt x50)), (.v (.str x51)), (.v (.str x52)), (.v (.str x53)), (.v (.sl x54)), (.v (.int .i64 x55)), (.v (.int .i64 x56)), (.v (.sl x57)), (.v (.int .i64 x58)), (.v (.int .i64 x59)), (.v (.int .i64 x60)), (.v (.int .i64 x61)), (.v (.sl x62)), (.v (.int .i64 x63)), (.v (.int .i64 (IntKind.wrap .i64 (x64 + 1)))), (.v (.str x65)), (.v (.str x66)), (.v (.str x67)), (.v (.str x68)), (.v (.str x69)), (.v (.str x70)), (.l (hL v.2 21))])))))))))))
(some (.inr (1, [(.v (.pt x50)), (.v (.str x51)), (.v (.str x52)), (.v (.sl x54)), (.v (.int .i64 x55)), (.v (.int .i64 x56)), (.v (.sl x57)), (.v (.int .i64 x58)), (.v (.int .i64 x59)), (.v (.int .i64 x60)), (.v (.int .i64 x61)), (.v (.str x65)), (.v (.str x66)), (.v (.str x67)), (.v (.str x68)), (.v (.str x69)), (.v (.str x70)), (.l (hL v.2 21))])))))))))))))))))))))))))]
noncomputable def pfind_L2 (v : Vs) : Option (Vs ⊕ Vs) := sel v.1 [((asPt? (hV v.2 0)).bind fun x30 =>
((asStr? (hV v.2 1)).bind fun x31 =>
((asStr? (hV v.2 2)).bind fun x32 =>
((asSl? (hV v.2 3)).bind fun x33 =>
((asInt? .i64 (hV v.2 4)).bind fun x34 =>
((asInt? .i64 (hV v.2 5)).bind fun x35 =>
((asSl? (hV v.2 6)).bind fun x36 =>
((asInt? .i64 (hV v.2 7)).bind fun x37 =>
((asInt? .i64 (hV v.2 8)).bind fun x38 =>
((asInt? .i64 (hV v.2 9)).bind fun x39 =>
((asInt? .i64 (hV v.2 10)).bind fun x40 =>
((asStr? (hV v.2 11)).bind fun x41 =>
((asStr? (hV v.2 12)).bind fun x42 =>
((asStr? (hV v.2 13)).bind fun x43 =>
((asStr? (hV v.2 14)).bind fun x44 =>
((asStr? (hV v.2 15)).bind fun x45 =>
((asStr? (hV v.2 16)).bind fun x46 =>
(cond (decide (x40 < x39))
((idxL (hL v.2 17) x40).bind fun x47 =>
((asStr? x47).bind fun x48 =>
((pcats x41 x42 x43 x44 x45 x46).bind fun x49 =>
((loopK pfind_L3 FU (0, [(.v (.pt x30)), (.v (.str x31)), (.v (.str x32)), (.v (.str x48)), (.v (.sl x33)), (.v (.int .i64 x34)), (.v (.int .i64 x35)), (.v (.sl x36)), (.v (.int .i64 x37)), (.v (.int .i64 x38)), (.v (.int .i64 x39)), (.v (.int .i64 x40)), (.v (.sl x49)), (.v (.int .i64 ((slLen x49 : Nat) : Int))), (.v (.int .i64 0)), (.v (.str x41)), (.v (.str x42)), (.v (.str x43)), (.v (.str x44)), (.v (.str x45)), (.v (.str x46)), (.l (hL v.2 17))])).bind fun x78 => sel x78.1 [((asStr? (hV x78.2 0)).bind fun x79 =>
((asBool? (hV x78.2 1)).bind fun x80 =>
(some (.inr (0, [(.v (.str x79)), (.v (.bool x80))]))))),
((asPt? (hV x78.2 0)).bind fun x81 =>
((asStr? (hV x78.2 1)).bind fun x82 =>
((asStr? (hV x78.2 2)).bind fun x83 =>
((asSl? (hV x78.2 3)).bind fun x84 =>
((asInt? .i64 (hV x78.2 4)).bind fun x85 =>
((asInt? .i64 (hV x78.2 5)).bind fun x86 =>
((asSl? (hV x78.2 6)).bind fun x87 =>
((asInt? .i64 (hV x78.2 7)).bind fun x88 =>
((asInt? .i64 (hV x78.2 8)).bind fun x89 =>
((asInt? .i64 (hV x78.2 9)).bind fun x90 =>
((asInt? .i64 (hV x78.2 10)).bind fun x91 =>
((asStr? (hV x78.2 11)).bind fun x92 =>
((asStr? (hV x78.2 12)).bind fun x93 =>
((asStr? (hV x78.2 13)).bind fun x94 =>
((asStr? (hV x78.2 14)).bind fun x95 =>
((asStr? (hV x78.2 15)).bind fun x96 =>
((asStr? (hV x78.2 16)).bind fun x97 =>
(some (.inl (0, [(.v (.pt x81)), (.v (.str x82)), (.v (.str x83)), (.v (.sl x84)), (.v (.int .i64 x85)), (.v (.int .i64 x86)), (.v (.sl x87)), (.v (.int .i64 x88)), (.v (.int .i64 x89)), (.v (.int .i64 x90)), (.v (.int .i64 (IntKind.wrap .i64 (x91 + 1)))), (.v (.str x92)), (.v (.str x93)), (.v (.str x94)), (.v (.str x95)), (.v (.str x96)), (.v (.str x97)), (.l (hL x78.2 17))]))))))))))))))))))))]))))
(some (.inr (1, [(.v (.pt x30)), (.v (.str x31)), (.v (.sl x33)), (.v (.int .i64 x34)), (.v (.int .i64 x35)), (.v (.sl x36)), (.v (.int .i64 x37)), (.v (.int .i64 x38)), (.v (.str x41)), (.v (.str x42)), (.v (.str x43)), (.v (.str x44)), (.v (.str x45)), (.v (.str x46))])))))))))))))))))))))]
noncomputable def pfind_L1 (v : Vs) : Option (Vs ⊕ Vs) := sel v.1 [((asPt? (hV v.2 0)).bind fun x14 =>
((asStr? (hV v.2 1)).bind fun x15 =>
((asSl? (hV v.2 2)).bind fun x16 =>
((asInt? .i64 (hV v.2 3)).bind fun x17 =>
((asInt? .i64 (hV v.2 4)).bind fun x18 =>
((asSl? (hV v.2 5)).bind fun x19 =>
((asInt? .i64 (hV v.2 6)).bind fun x20 =>
((asInt? .i64 (hV v.2 7)).bind fun x21 =>
((asStr? (hV v.2 8)).bind fun x22 =>
((asStr? (hV v.2 9)).bind fun x23 =>
((asStr? (hV v.2 10)).bind fun x24 =>
((asStr? (hV v.2 11)).bind fun x25 =>
((asStr? (hV v.2 12)).bind fun x26 =>
((asStr? (hV v.2 13)).bind fun x27 =>
(cond (decide (x21 < x20))
((idxL (x19.getD []) x21).bind fun x28 =>
((asStr? x28).bind fun x29 =>
((loopK pfind_L2 FU (0, [(.v (.pt x14)), (.v (.str x15)), (.v (.str x29)), (.v (.sl x16)), (.v (.int .i64 x17)), (.v (.int .i64 x18)), (.v (.sl x19)), (.v (.int .i64 x20)), (.v (.int .i64 x21)), (.v (.int .i64 2)), (.v (.int .i64 0)), (.v (.str x22)), (.v (.str x23)), (.v (.str x24)), (.v (.str x25)), (.v (.str x26)), (.v (.str x27)), (.l [(.str x27), (.str [])])])).bind fun x98 => sel x98.1 [((asStr? (hV x98.2 0)).bind fun x99 =>
((asBool? (hV x98.2 1)).bind fun x100 =>
(some (.inr (0, [(.v (.str x99)), (.v (.bool x100))]))))),
((asPt? (hV x98.2 0)).bind fun x101 =>
((asStr? (hV x98.2 1)).bind fun x102 =>
((asSl? (hV x98.2 2)).bind fun x103 =>
((asInt? .i64 (hV x98.2 3)).bind fun x104 =>
((asInt? .i64 (hV x98.2 4)).bind fun x105 =>
((asSl? (hV x98.2 5)).bind fun x106 =>
((asInt? .i64 (hV x98.2 6)).bind fun x107 =>
((asInt? .i64 (hV x98.2 7)).bind fun x108 =>
((asStr? (hV x98.2 8)).bind fun x109 =>
((asStr? (hV x98.2 9)).bind fun x110 =>
((asStr? (hV x98.2 10)).bind fun x111 =>
((asStr? (hV x98.2 11)).bind fun x112 =>
((asStr? (hV x98.2 12)).bind fun x113 =>
((asStr? (hV x98.2 13)).bind fun x114 =>
(some (.inl (0, [(.v (.pt x101)), (.v (.str x102)), (.v (.sl x103)), (.v (.int .i64 x104)), (.v (.int .i64 x105)), (.v (.sl x106)), (.v (.int .i64 x107)), (.v (.int .i64 (IntKind.wrap .i64 (x108 + 1)))), (.v (.str x109)), (.v (.str x110)), (.v (.str x111)), (.v (.str x112)), (.v (.str x113)), (.v (.str x114))])))))))))))))))))])))
(some (.inr (1, [(.v (.pt x14)), (.v (.sl x16)), (.v (.int .i64 x17)), (.v (.int .i64 x18)), (.v (.str x22)), (.v (.str x23)), (.v (.str x24)), (.v (.str x25)), (.v (.str x26)), (.v (.str x27))]))))))))))))))))))]
noncomputable def pfind_L0 (v : Vs) : Option (Vs ⊕ Vs) := sel v.1 [((asPt? (hV v.2 0)).bind fun x1 =>
((asSl? (hV v.2 1)).bind fun x2 =>
((asInt? .i64 (hV v.2 2)).bind fun x3 =>
((asInt? .i64 (hV v.2 3)).bind fun x4 =>
((asStr? (hV v.2 4)).bind fun x5 =>
((asStr? (hV v.2 5)).bind fun x6 =>
((asStr? (hV v.2 6)).bind fun x7 =>
((asStr? (hV v.2 7)).bind fun x8 =>
((asStr? (hV v.2 8)).bind fun x9 =>
((asStr? (hV v.2 9)).bind fun x10 =>
(cond (decide (x4 < x3))
((idxL (x2.getD []) x4).bind fun x11 =>
((asStr? x11).bind fun x12 =>
((pwidths x7).bind fun x13 =>
((loopK pfind_L1 FU (0, [(.v (.pt x1)), (.v (.str x12)), (.v (.sl x2)), (.v (.int .i64 x3)), (.v (.int .i64 x4)), (.v (.sl x13)), (.v (.int .i64 ((slLen x13 : Nat) : Int))), (.v (.int .i64 0)), (.v (.str x5)), (.v (.str x6)), (.v (.str x7)), (.v (.str x8)), (.v (.str x9)), (.v (.str x10))])).bind fun x115 => sel x115.1 [((asStr? (hV x115.2 0)).bind fun x116 =>
((asBool? (hV x115.2 1)).bind fun x117 =>
(some (.inr (0, [(.v (.str x116)), (.v (.bool x117))]))))),
((asPt? (hV x115.2 0)).bind fun x118 =>
((asSl? (hV x115.2 1)).bind fun x119 =>
((asInt? .i64 (hV x115.2 2)).bind fun x120 =>
((asInt? .i64 (hV x115.2 3)).bind fun x121 =>
((asStr? (hV x115.2 4)).bind fun x122 =>
((asStr? (hV x115.2 5)).bind fun x123 =>
((asStr? (hV x115.2 6)).bind fun x124 =>
((asStr? (hV x115.2 7)).bind fun x125 =>
((asStr? (hV x115.2 8)).bind fun x126 =>
((asStr? (hV x115.2 9)).bind fun x127 =>
(some (.inl (0, [(.v (.pt x118)), (.v (.sl x119)), (.v (.int .i64 x120)), (.v (.int .i64 (IntKind.wrap .i64 (x121 + 1)))), (.v (.str x122)), (.v (.str x123)), (.v (.str x124)), (.v (.str x125)), (.v (.str x126)), (.v (.str x127))])))))))))))))]))))
(some (.inr (1, []))))))))))))))]
noncomputable def pfind (a0 : Option (List V)) (a1 : List UInt8) (a2 : List UInt8) (a3 : List UInt8) (a4 : List UInt8) (a5 : List UInt8) (a6 : List UInt8) : Option (List UInt8 × Bool) :=
((pchain a0 a2).bind fun x0 =>
((loopK pfind_L0 FU (0, [(.v (.pt a0)), (.v (.sl x0)), (.v (.int .i64 ((slLen x0 : Nat) : Int))), (.v (.int .i64 0)), (.v (.str a1)), (.v (.str a2)), (.v (.str a3)), (.v (.str a4)), (.v (.str a5)), (.v (.str a6))])).bind fun x128 => sel x128.1 [((asStr? (hV x128.2 0)).bind fun x129 =>
((asBool? (hV x128.2 1)).bind fun x130 =>
(some (x129, x130)))),
(some ([], false))]))
noncomputable def pfind_e : List SV → Objs → Option ((β : Type) → (SV → Objs → Option β) → Option β)
  | [.a (.v (.pt a0)), .a (.v (.agg [(.str a1), (.str a2), (.str a3), (.str a4), (.str a5), (.str a6)]))], os => some fun _ K => (pfind a0 a1 a2 a3 a4 a5 a6).bind fun p => K (.a (.v (.tup [(.str p.1), (.bool p.2)]))) os
  | _, _ => none
noncomputable def pfind_k (sv : SV) (os : Objs) : Option (List UInt8 × Bool) := match sv, os with
  | .a (.v v), [] => dTy (.tup [(.k .str), (.k .bool)]) v fun v => (match v with | (.tup [(.str r0), (.bool r1)]) => some (r0, r1) | _ => none)
  | _, _ => none
noncomputable def pfind_n : FuncId → Nat → Ann := fun f n => match f, n with
  | 14, 0 => ⟨[(23, (.t1 (.k .str))), (31, (.t1 (.k .str))), (39, (.t1 (.k .str))), (46, (.t1 (.k .str))), (50, (.ptr [.mp, .mp])), (51, (.ptr [.mp, .mp])), (62, (.tup [(.k .str), (.k .bool)]))], [⟨[⟨[.a (.h (.t1 (.k .pt))), .u, .u, .a (.loc 0 0), .u, .u, .u, .u, .u, .u, .u, .u, .u, .u, .u, .u, .u, .u, .u, .a (.h (.t1 (.k .sl))), .a (.h (.t1 (.k (.int .i64)))), .a (.h (.t1 (.k (.int .i64)))), .u, .u, .u, .u, .u, .u, .u, .u, .u, .u, .u, .u, .u, .u, .u, .u, .u, .u, .u, .u, .u, .u, .u, .u, .u, .u, .u, .u, .u, .u, .u, .u, .u, .u, .u, .u, .u, .u, .u, .u, .u, .u, .u, .u, .u, .u, .u, .u, .u], [.box 46 [.h (.t1 (.k .str)), .h (.t1 (.k .str)), .h (.t1 (.k .str)), .h (.t1 (.k .str)), .h (.t1 (.k .str)), .h (.t1 (.k .str))]]⟩], [(.ret, ⟨[.u, .u, .u, .u, .a (.h (.t1 (.k .str))), .a (.h (.t1 (.k .bool))), .u, .u, .u, .u, .u, .u, .u, .u, .u, .u, .u, .u, .u, .u, .u, .u, .u, .u, .u, .u, .u, .u, .u, .u, .u, .u, .u, .u, .u, .u, .u, .u, .u, .u, .u, .u, .u, .u, .u, .u, .u, .u, .u, .u, .u, .u, .u, .u, .u, .u, .u, .u, .u, .u, .u, .u, .u, .u, .u, .u, .u, .u, .u, .u, .u], []⟩), ((.ex 0), ⟨[.u, .u, .u, .u, .u, .u, .u, .u, .u, .u, .u, .u, .u, .u, .u, .u, .u, .u, .u, .u, .u, .u, .u, .u, .u, .u, .u, .u, .u, .u, .u, .u, .u, .u, .u, .u, .u, .u, .u, .u, .u, .u, .u, .u, .u, .u, .u, .u, .u, .u, .u, .u, .u, .u, .u, .u, .u, .u, .u, .u, .u, .u, .u, .u, .u, .u, .u, .u, .u, .u, .u], []⟩)]⟩, ⟨[⟨[.a (.h (.t1 (.k .pt))), .u, .u, .a (.loc 0 0), .u, .u, .u, .a (.h (.t1 (.k .str))), .u, .u, .u, .u, .u, .u, .u, .u, .u, .u, .u, .a (.h (.t1 (.k .sl))), .a (.h (.t1 (.k (.int .i64)))), .a (.h (.t1 (.k (.int .i64)))), .u, .u, .u, .u, .u, .a (.h (.t1 (.k .sl))), .a (.h (.t1 (.k (.int .i64)))), .a (.h (.t1 (.k (.int .i64)))), .u, .u, .u, .u, .u, .u, .u, .u, .u, .u, .u, .u, .u, .u, .u, .u, .u, .u, .u, .u, .u, .u, .u, .u, .u, .u, .u, .u, .u, .u, .u, .u, .u, .u, .u, .u, .u, .u, .u, .u, .u], [.box 46 [.h (.t1 (.k .str)), .h (.t1 (.k .str)), .h (.t1 (.k .str)), .h (.t1 (.k .str)), .h (.t1 (.k .str)), .h (.t1 (.k .str))]]⟩], [(.ret, ⟨[.u, .u, .u, .u, .a (.h (.t1 (.k .str))), .a (.h (.t1 (.k .bool))), .u, .u, .u, .u, .u, .u, .u, .u, .u, .u, .u, .u, .u, .u, .u, .u, .u, .u, .u, .u, .u, .u, .u, .u, .u, .u, .u, .u, .u, .u, .u, .u, .u, .u, .u, .u, .u, .u, .u, .u, .u, .u, .u, .u, .u, .u, .u, .u, .u, .u, .u, .u, .u, .u, .u, .u, .u, .u, .u, .u, .u, .u, .u, .u, .u], []⟩), ((.ex 2), ⟨[.a (.h (.t1 (.k .pt))), .u, .u, .a (.loc 0 0), .u, .u, .u, .u, .u, .u, .u, .u, .u, .u, .u, .u, .u, .u, .u, .a (.h (.t1 (.k .sl))), .a (.h (.t1 (.k (.int .i64)))), .a (.h (.t1 (.k (.int .i64)))), .u, .u, .u, .u, .u, .u, .u, .u, .u, .u, .u, .u, .u, .u, .u, .u, .u, .u, .u, .u, .u, .u, .u, .u, .u, .u, .u, .u, .u, .u, .u, .u, .u, .u, .u, .u, .u, .u, .u, .u, .u, .u, .u, .u, .u, .u, .u, .u, .u], [.box 46 [.h (.t1 (.k .str)), .h (.t1 (.k .str)), .h (.t1 (.k .str)), .h (.t1 (.k .str)), .h (.t1 (.k .str)), .h (.t1 (.k .str))]]⟩)]⟩, ⟨[⟨[.a (.h (.t1 (.k .pt))), .u, .u, .a (.loc 0 0), .u, .u, .u, .a (.h (.t1 (.k .str))), .u, .a (.h (.t1 (.k .str))), .u, .u, .u, .u, .u, .u, .u, .u, .u, .a (.h (.t1 (.k .sl))), .a (.h (.t1 (.k (.int .i64)))), .a (.h (.t1 (.k (.int .i64)))), .u, .u, .u, .u, .u, .a (.h (.t1 (.k .sl))), .a (.h (.t1 (.k (.int .i64)))), .a (.h (.t1 (.k (.int .i64)))), .u, .u, .u, .u, .u, .a (.own 1), .a (.h (.t1 (.k (.int .i64)))), .a (.h (.t1 (.k (.int .i64)))), .u, .u, .u, .u, .u, .u, .u, .u, .u, .u, .u, .u, .u, .u, .u, .u, .u, .u, .u, .u, .u, .u, .u, .u, .u, .u, .u, .u, .u, .u, .u, .u, .u], [.box 46 [.h (.t1 (.k .str)), .h (.t1 (.k .str)), .h (.t1 (.k .str)), .h (.t1 (.k .str)), .h (.t1 (.k .str)), .h (.t1 (.k .str))], .ext 9 1]⟩], [(.ret, ⟨[.u, .u, .u, .u, .a (.h (.t1 (.k .str))), .a (.h (.t1 (.k .bool))), .u, .u, .u, .u, .u, .u, .u, .u, .u, .u, .u, .u, .u, .u, .u, .u, .u, .u, .u, .u, .u, .u, .u, .u, .u, .u, .u, .u, .u, .u, .u, .u, .u, .u, .u, .u, .u, .u, .u, .u, .u, .u, .u, .u, .u, .u, .u, .u, .u, .u, .u, .u, .u, .u, .u, .u, .u, .u, .u, .u, .u, .u, .u, .u, .u], []⟩), ((.ex 4), ⟨[.a (.h (.t1 (.k .pt))), .u, .u, .a (.loc 0 0), .u, .u, .u, .a (.h (.t1 (.k .str))), .u, .u, .u, .u, .u, .u, .u, .u, .u, .u, .u, .a (.h (.t1 (.k .sl))), .a (.h (.t1 (.k (.int .i64)))), .a (.h (.t1 (.k (.int .i64)))), .u, .u, .u, .u, .u, .a (.h (.t1 (.k .sl))), .a (.h (.t1 (.k (.int .i64)))), .a (.h (.t1 (.k (.int .i64)))), .u, .u, .u, .u, .u, .u, .u, .u, .u, .u, .u, .u, .u, .u, .u, .u, .u, .u, .u, .u, .u, .u, .u, .u, .u, .u, .u, .u, .u, .u, .u, .u, .u, .u, .u, .u, .u, .u, .u, .u, .u], [.box 46 [.h (.t1 (.k .str)), .h (.t1 (.k .str)), .h (.t1 (.k .str)), .h (.t1 (.k .str)), .h (.t1 (.k .str)), .h (.t1 (.k .str))]]⟩)]⟩, ⟨[⟨[.a (.h (.t1 (.k .pt))), .u, .u, .a (.loc 0 0), .u, .u, .u, .a (.h (.t1 (.k .str))), .u, .a (.h (.t1 (.k .str))), .u, .a (.h (.t1 (.k .str))), .u, .u, .u, .u, .u, .u, .u, .a (.h (.t1 (.k .sl))), .a (.h (.t1 (.k (.int .i64)))), .a (.h (.t1 (.k (.int .i64)))), .u, .u, .u, .u, .u, .a (.h (.t1 (.k .sl))), .a (.h (.t1 (.k (.int .i64)))), .a (.h (.t1 (.k (.int .i64)))), .u, .u, .u, .u, .u, .a (.own 1), .a (.h (.t1 (.k (.int .i64)))), .a (.h (.t1 (.k (.int .i64)))), .u, .u, .u, .u, .a (.h (.t1 (.k .sl))), .a (.h (.t1 (.k (.int .i64)))), .a (.h (.t1 (.k (.int .i64)))), .u, .u, .u, .u, .u, .u, .u, .u, .u, .u, .u, .u, .u, .u, .u, .u, .u, .u, .u, .u, .u, .u, .u, .u, .u, .u], [.box 46 [.h (.t1 (.k .str)), .h (.t1 (.k .str)), .h (.t1 (.k .str)), .h (.t1 (.k .str)), .h (.t1 (.k .str)), .h (.t1 (.k .str))], .ext 9 1]⟩], [(.ret, ⟨[.u, .u, .u, .u, .a (.h (.t1 (.k .str))), .a (.h (.t1 (.k .bool))), .u, .u, .u, .u, .u, .u, .u, .u, .u, .u, .u, .u, .u, .u, .u, .u, .u, .u, .u, .u, .u, .u, .u, .u, .u, .u, .u, .u, .u, .u, .u, .u, .u, .u, .u, .u, .u, .u, .u, .u, .u, .u, .u, .u, .u, .u, .u, .u, .u, .u, .u, .u, .u, .u, .u, .u, .u, .u, .u, .u, .u, .u, .u, .u, .u], []⟩), ((.ex 6), ⟨[.a (.h (.t1 (.k .pt))), .u, .u, .a (.loc 0 0), .u, .u, .u, .a (.h (.t1 (.k .str))), .u, .a (.h (.t1 (.k .str))), .u, .u, .u, .u, .u, .u, .u, .u, .u, .a (.h (.t1 (.k .sl))), .a (.h (.t1 (.k (.int .i64)))), .a (.h (.t1 (.k (.int .i64)))), .u, .u, .u, .u, .u, .a (.h (.t1 (.k .sl))), .a (.h (.t1 (.k (.int .i64)))), .a (.h (.t1 (.k (.int .i64)))), .u, .u, .u, .u, .u, .a (.own 1), .a (.h (.t1 (.k (.int .i64)))), .a (.h (.t1 (.k (.int .i64)))), .u, .u, .u, .u, .u, .u, .u, .u, .u, .u, .u, .u, .u, .u, .u, .u, .u, .u, .u, .u, .u, .u, .u, .u, .u, .u, .u, .u, .u, .u, .u, .u, .u], [.box 46 [.h (.t1 (.k .str)), .h (.t1 (.k .str)), .h (.t1 (.k .str)), .h (.t1 (.k .str)), .h (.t1 (.k .str)), .h (.t1 (.k .str))], .ext 9 1]⟩)]⟩], false⟩
  | _, _ => ⟨[], [], false⟩
theorem pfind_q : (fun (a0 : Option (List V)) (a1 : List UInt8) (a2 : List UInt8) (a3 : List UInt8) (a4 : List UInt8) (a5 : List UInt8) (a6 : List UInt8) => stN tab0_19 code pfind_n FU 24 14 [.a (.v (.pt a0)), .a (.v (.agg [(.str a1), (.str a2), (.str a3), (.str a4), (.str a5), (.str a6)]))] [] pfind_k) = (fun (a0 : Option (List V)) (a1 : List UInt8) (a2 : List UInt8) (a3 : List UInt8) (a4 : List UInt8) (a5 : List UInt8) (a6 : List UInt8) => pfind a0 a1 a2 a3 a4 a5 a6) := by kernel_rfl
noncomputable def tab0_20 : ToldK := addTo tab0_19 14 pfind_e
theorem pfind_h : EntryOK tab0_19 code pfind_n FU 24 14 pfind_e := by
  intro args os t h
  unfold pfind_e at h
  split at h
  · rename_i os0 a0 a1 a2 a3 a4 a5 a6
    cases h
    exact ⟨_, _, fun p => (.tup [(.str p.1), (.bool p.2)]), pfind_k, ids_all rfl, fun _ _ => rfl, (congrFun (congrFun (congrFun (congrFun (congrFun (congrFun (congrFun pfind_q _) _) _) _) _) _) _), fun sv os p hp => by
      unfold pfind_k at hp
      split at hp
      · have hp := dTy_ok hp
        split at hp
        · cases hp; exact ⟨rfl, rfl⟩
        · cases hp
      · cases hp⟩
  · cases h
/-! cubit/pattern.lang -/
noncomputable def plang_L0 (v : Vs) : Option (Vs ⊕ Vs) := sel v.1 [((asStr? (hV v.2 0)).bind fun x0 =>
(cond (decide ((((x0 : List UInt8).length : Nat) : Int) > 0))
((idxL x0 (IntKind.wrap .i64 ((((x0 : List UInt8).length : Nat) : Int) - 1))).bind fun x1 =>
(chk (decide (0 ≤ ((x1.toNat : Nat) : Int)) && decide (((x1.toNat : Nat) : Int) < 256))
((((masLow_r : List V)[(0 + Int.toNat ((x1.toNat : Nat) : Int) * 1)]?)).bind fun x2 =>
((asBool? x2).bind fun x3 =>
(cond (!x3)
(some (.inr (0, [(.v (.str x0))])))
((cutL none (some (IntKind.wrap .i64 ((((x0 : List UInt8).length : Nat) : Int) - 1))) x0).bind fun x4 =>
(some (.inl (0, [(.v (.str x4))])))))))))
(some (.inr (0, [(.v (.str x0))])))))]
noncomputable def plang_L1 (v : Vs) : Option (Vs ⊕ Vs) := sel v.1 [((asStr? (hV v.2 0)).bind fun x7 =>
(cond (decide ((((x7 : List UInt8).length : Nat) : Int) > 0))
((idxL x7 0).bind fun x8 =>
(chk (decide (0 ≤ ((x8.toNat : Nat) : Int)) && decide (((x8.toNat : Nat) : Int) < 256))
((((masLow_r : List V)[(0 + Int.toNat ((x8.toNat : Nat) : Int) * 1)]?)).bind fun x9 =>
((asBool? x9).bind fun x10 =>
(cond (!x10)
(some (.inr (0, [(.v (.str x7))])))
((cutL (some 1) none x7).bind fun x11 =>
(some (.inl (0, [(.v (.str x11))])))))))))
(some (.inr (0, [(.v (.str x7))])))))]
noncomputable def plang (a0 : List UInt8) : Option (Bool) :=
(cond (a0 == [114, 111, 111, 116])
(some (true))
(cond (decide ((((a0 : List UInt8).length : Nat) : Int) ≥ 2))
(cond (decide ((((a0 : List UInt8).length : Nat) : Int) ≤ 3))
(cond (a0 == [])
(some ((a0 == [])))
((loopK plang_L0 FU (0, [(.v (.str a0))])).bind fun x5 => sel x5.1 [((asStr? (hV x5.2 0)).bind fun x6 =>
((loopK plang_L1 FU (0, [(.v (.str x6))])).bind fun x12 => sel x12.1 [((asStr? (hV x12.2 0)).bind fun x13 =>
(some ((x13 == []))))]))]))
(some (false)))
(some (false))))
noncomputable def plang_e : List SV → Objs → Option ((β : Type) → (SV → Objs → Option β) → Option β)
  | [.a (.v (.str a0))], os => some fun _ K => (plang a0).bind fun p => K (.a (.v (.bool p))) os
  | _, _ => none
noncomputable def plang_k (sv : SV) (os : Objs) : Option (Bool) := match sv, os with
  | .a (.v v), [] => dTy (.t1 (.k .bool)) v fun v => (match v with | (.bool r0) => some (r0) | _ => none)
  | _, _ => none
noncomputable def plang_n : FuncId → Nat → Ann := fun f n => match f, n with
  | 72, 1 => ⟨[(9, (.t1 (.k .bool)))], [], false⟩
  | 45, 1 => ⟨[], [⟨[⟨[.a (.h (.t1 (.k .str))), .a (.loc 0 0), .u, .u, .u, .u, .u, .u, .u, .u, .u, .u, .u, .u, .u, .u, .u, .u, .u, .u, .u, .u], [.cbox 92 masLow_r]⟩], [((.ex 0), ⟨[.a (.h (.t1 (.k .str))), .u, .u, .u, .u, .u, .u, .u, .u, .u, .u, .u, .u, .u, .u, .u, .u, .u, .u, .u, .u, .u], [.cbox 92 masLow_r]⟩)]⟩], false⟩
  | 44, 1 => ⟨[], [⟨[⟨[.a (.h (.t1 (.k .str))), .a (.loc 0 0), .u, .u, .u, .u, .u, .u, .u, .u, .u, .u, .u, .u, .u, .u], [.cbox 92 masLow_r]⟩], [((.ex 0), ⟨[.a (.h (.t1 (.k .str))), .u, .u, .u, .u, .u, .u, .u, .u, .u, .u, .u, .u, .u, .u, .u], [.cbox 92 masLow_r]⟩)]⟩], false⟩
  | _, _ => ⟨[], [], false⟩
theorem plang_q : (fun (a0 : List UInt8) => stN tab0_20 code plang_n FU 24 57 [.a (.v (.str a0))] [] plang_k) = (fun (a0 : List UInt8) => plang a0) := by kernel_rfl
noncomputable def tab0_21 : ToldK := addTo tab0_20 57 plang_e
theorem plang_h : EntryOK tab0_20 code plang_n FU 24 57 plang_e := by
  intro args os t h
  unfold plang_e at h
  split at h
  · rename_i os0 a0
    cases h
    exact ⟨_, _, fun p => (.bool p), plang_k, ids_all rfl, fun _ _ => rfl, (congrFun plang_q _), fun sv os p hp => by
      unfold plang_k at hp
      split at hp
      · have hp := dTy_ok hp
        split at hp
        · cases hp; exact ⟨rfl, rfl⟩
        · cases hp
      · cases hp⟩
  · cases h
/-! cubit/pattern.width -/
noncomputable def pwidth (a0 : List UInt8) : Option (Bool) :=
(cond (a0 == [108, 111, 110, 103])
(some (true))
(cond (a0 == [115, 104, 111, 114, 116])
(some (true))
(some ((a0 == [110, 97, 114, 114, 111, 119])))))
noncomputable def pwidth_e : List SV → Objs → Option ((β : Type) → (SV → Objs → Option β) → Option β)
  | [.a (.v (.str a0))], os => some fun _ K => (pwidth a0).bind fun p => K (.a (.v (.bool p))) os
  | _, _ => none
noncomputable def pwidth_k (sv : SV) (os : Objs) : Option (Bool) := match sv, os with
  | .a (.v v), [] => dTy (.t1 (.k .bool)) v fun v => (match v with | (.bool r0) => some (r0) | _ => none)
  | _, _ => none
noncomputable def pwidth_n : FuncId → Nat → Ann := fun f n => match f, n with
  | _, _ => ⟨[], [], false⟩
theorem pwidth_q : (fun (a0 : List UInt8) => stN tab0_21 code pwidth_n FU 24 82 [.a (.v (.str a0))] [] pwidth_k) = (fun (a0 : List UInt8) => pwidth a0) := by kernel_rfl
noncomputable def tab0_22 : ToldK := addTo tab0_21 82 pwidth_e
theorem pwidth_h : EntryOK tab0_21 code pwidth_n FU 24 82 pwidth_e := by
  intro args os t h
  unfold pwidth_e at h
  split at h
  · rename_i os0 a0
    cases h
    exact ⟨_, _, fun p => (.bool p), pwidth_k, ids_all rfl, fun _ _ => rfl, (congrFun pwidth_q _), fun sv os p hp => by
      unfold pwidth_k at hp
      split at hp
      · have hp := dTy_ok hp
        split at hp
        · cases hp; exact ⟨rfl, rfl⟩
        · cases hp
      · cases hp⟩
  · cases h
/-! cubit/pattern.name -/
noncomputable def pname_L0 (v : Vs) : Option (Vs ⊕ Vs) := sel v.1 [((asStr? (hV v.2 0)).bind fun x0 =>
(cond (decide ((((x0 : List UInt8).length : Nat) : Int) > 0))
((idxL x0 (IntKind.wrap .i64 ((((x0 : List UInt8).length : Nat) : Int) - 1))).bind fun x1 =>
(chk (decide (0 ≤ ((x1.toNat : Nat) : Int)) && decide (((x1.toNat : Nat) : Int) < 256))
((((masName_r : List V)[(0 + Int.toNat ((x1.toNat : Nat) : Int) * 1)]?)).bind fun x2 =>
((asBool? x2).bind fun x3 =>
(cond (!x3)
(some (.inr (0, [(.v (.str x0))])))
((cutL none (some (IntKind.wrap .i64 ((((x0 : List UInt8).length : Nat) : Int) - 1))) x0).bind fun x4 =>
(some (.inl (0, [(.v (.str x4))])))))))))
(some (.inr (0, [(.v (.str x0))])))))]
noncomputable def pname_L1 (v : Vs) : Option (Vs ⊕ Vs) := sel v.1 [((asStr? (hV v.2 0)).bind fun x7 =>
(cond (decide ((((x7 : List UInt8).length : Nat) : Int) > 0))
((idxL x7 0).bind fun x8 =>
(chk (decide (0 ≤ ((x8.toNat : Nat) : Int)) && decide (((x8.toNat : Nat) : Int) < 256))
((((masName_r : List V)[(0 + Int.toNat ((x8.toNat : Nat) : Int) * 1)]?)).bind fun x9 =>
((asBool? x9).bind fun x10 =>
(cond (!x10)
(some (.inr (0, [(.v (.str x7))])))
((cutL (some 1) none x7).bind fun x11 =>
(some (.inl (0, [(.v (.str x11))])))))))))
(some (.inr (0, [(.v (.str x7))])))))]
noncomputable def pname (a0 : List UInt8) : Option (Bool) :=
(cond (!(a0 == []))
(cond (a0 == [])
(some ((a0 == [])))
((loopK pname_L0 FU (0, [(.v (.str a0))])).bind fun x5 => sel x5.1 [((asStr? (hV x5.2 0)).bind fun x6 =>
((loopK pname_L1 FU (0, [(.v (.str x6))])).bind fun x12 => sel x12.1 [((asStr? (hV x12.2 0)).bind fun x13 =>
(some ((x13 == []))))]))]))
(some (false)))
noncomputable def pname_e : List SV → Objs → Option ((β : Type) → (SV → Objs → Option β) → Option β)
  | [.a (.v (.str a0))], os => some fun _ K => (pname a0).bind fun p => K (.a (.v (.bool p))) os
  | _, _ => none
noncomputable def pname_k (sv : SV) (os : Objs) : Option (Bool) := match sv, os with
  | .a (.v v), [] => dTy (.t1 (.k .bool)) v fun v => (match v with | (.bool r0) => some (r0) | _ => none)
  | _, _ => none
noncomputable def pname_n : FuncId → Nat → Ann := fun f n => match f, n with
  | 72, 1 => ⟨[(9, (.t1 (.k .bool)))], [], false⟩
  | 45, 1 => ⟨[], [⟨[⟨[.a (.h (.t1 (.k .str))), .a (.loc 0 0), .u, .u, .u, .u, .u, .u, .u, .u, .u, .u, .u, .u, .u, .u, .u, .u, .u, .u, .u, .u], [.cbox 92 masName_r]⟩], [((.ex 0), ⟨[.a (.h (.t1 (.k .str))), .u, .u, .u, .u, .u, .u, .u, .u, .u, .u, .u, .u, .u, .u, .u, .u, .u, .u, .u, .u, .u], [.cbox 92 masName_r]⟩)]⟩], false⟩
  | 44, 1 => ⟨[], [⟨[⟨[.a (.h (.t1 (.k .str))), .a (.loc 0 0), .u, .u, .u, .u, .u, .u, .u, .u, .u, .u, .u, .u, .u, .u], [.cbox 92 masName_r]⟩], [((.ex 0), ⟨[.a (.h (.t1 (.k .str))), .u, .u, .u, .u, .u, .u, .u, .u, .u, .u, .u, .u, .u, .u, .u], [.cbox 92 masName_r]⟩)]⟩], false⟩
  | _, _ => ⟨[], [], false⟩
theorem pname_q : (fun (a0 : List UInt8) => stN tab0_22 code pname_n FU 24 83 [.a (.v (.str a0))] [] pname_k) = (fun (a0 : List UInt8) => pname a0) := by kernel_rfl
noncomputable def tab0_23 : ToldK := addTo tab0_22 83 pname_e
theorem pname_h : EntryOK tab0_22 code pname_n FU 24 83 pname_e := by
  intro args os t h
  unfold pname_e at h
  split at h
  · rename_i os0 a0
    cases h
    exact ⟨_, _, fun p => (.bool p), pname_k, ids_all rfl, fun _ _ => rfl, (congrFun pname_q _), fun sv os p hp => by
      unfold pname_k at hp
      split at hp
      · have hp := dTy_ok hp
        split at hp
        · cases hp; exact ⟨rfl, rfl⟩
        · cases hp
      · cases hp⟩
  · cases h
/-! cubit/pattern.some -/
noncomputable def psome (a0 : List UInt8) : Option (List UInt8) :=
(cond (a0 == [45])
(some ([]))
(some (a0)))
noncomputable def psome_e : List SV → Objs → Option ((β : Type) → (SV → Objs → Option β) → Option β)
  | [.a (.v (.str a0))], os => some fun _ K => (psome a0).bind fun p => K (.a (.v (.str p))) os
  | _, _ => none
noncomputable def psome_k (sv : SV) (os : Objs) : Option (List UInt8) := match sv, os with
  | .a (.v v), [] => dTy (.t1 (.k .str)) v fun v => (match v with | (.str r0) => some (r0) | _ => none)
  | _, _ => none
noncomputable def psome_n : FuncId → Nat → Ann := fun f n => match f, n with
  | _, _ => ⟨[], [], false⟩
theorem psome_q : (fun (a0 : List UInt8) => stN tab0_23 code psome_n FU 24 85 [.a (.v (.str a0))] [] psome_k) = (fun (a0 : List UInt8) => psome a0) := by kernel_rfl
noncomputable def tab0_24 : ToldK := addTo tab0_23 85 psome_e
theorem psome_h : EntryOK tab0_23 code psome_n FU 24 85 psome_e := by
  intro args os t h
  unfold psome_e at h
  split at h
  · rename_i os0 a0
    cases h
    exact ⟨_, _, fun p => (.str p), psome_k, ids_all rfl, fun _ _ => rfl, (congrFun psome_q _), fun sv os p hp => by
      unfold psome_k at hp
      split at hp
      · have hp := dTy_ok hp
        split at hp
        · cases hp; exact ⟨rfl, rfl⟩
        · cases hp
      · cases hp⟩
  · cases h
/-! cubit/rows.Blank -/
noncomputable def rblank (a0 : List UInt8) : Option (List UInt8) :=
((replAll a0 [95] [32]).bind fun x0 =>
(some (x0)))
noncomputable def rblank_e : List SV → Objs → Option ((β : Type) → (SV → Objs → Option β) → Option β)
  | [.a (.v (.str a0))], os => some fun _ K => (rblank a0).bind fun p => K (.a (.v (.str p))) os
  | _, _ => none
noncomputable def rblank_k (sv : SV) (os : Objs) : Option (List UInt8) := match sv, os with
  | .a (.v v), [] => dTy (.t1 (.k .str)) v fun v => (match v with | (.str r0) => some (r0) | _ => none)
  | _, _ => none
noncomputable def rblank_n : FuncId → Nat → Ann := fun f n => match f, n with
  | _, _ => ⟨[], [], false⟩
theorem rblank_q : (fun (a0 : List UInt8) => stN tab0_24 code rblank_n FU 24 56 [.a (.v (.str a0))] [] rblank_k) = (fun (a0 : List UInt8) => rblank a0) := by kernel_rfl
noncomputable def tab0_25 : ToldK := addTo tab0_24 56 rblank_e
theorem rblank_h : EntryOK tab0_24 code rblank_n FU 24 56 rblank_e := by
  intro args os t h
  unfold rblank_e at h
  split at h
  · rename_i os0 a0
    cases h
    exact ⟨_, _, fun p => (.str p), rblank_k, ids_all rfl, fun _ _ => rfl, (congrFun rblank_q _), fun sv os p hp => by
      unfold rblank_k at hp
      split at hp
      · have hp := dTy_ok hp
        split at hp
        · cases hp; exact ⟨rfl, rfl⟩
        · cases hp
      · cases hp⟩
  · cases h
/-! cubit/pattern.signs -/
noncomputable def psigns (a0 : List UInt8) : Option (Int × Int) :=
((sCount a0 [123, 48, 125]).bind fun x0 =>
((sCount a0 [123, 49, 125]).bind fun x1 =>
(some (x0, x1))))
noncomputable def psigns_e : List SV → Objs → Option ((β : Type) → (SV → Objs → Option β) → Option β)
  | [.a (.v (.str a0))], os => some fun _ K => (psigns a0).bind fun p => K (.a (.v (.tup [(.int .i64 p.1), (.int .i64 p.2)]))) os
  | _, _ => none
noncomputable def psigns_k (sv : SV) (os : Objs) : Option (Int × Int) := match sv, os with
  | .a (.v v), [] => dTy (.tup [(.k (.int .i64)), (.k (.int .i64))]) v fun v => (match v with | (.tup [(.int .i64 r0), (.int .i64 r1)]) => some (r0, r1) | _ => none)
  | _, _ => none
noncomputable def psigns_n : FuncId → Nat → Ann := fun f n => match f, n with
  | _, _ => ⟨[], [], false⟩
theorem psigns_q : (fun (a0 : List UInt8) => stN tab0_25 code psigns_n FU 24 84 [.a (.v (.str a0))] [] psigns_k) = (fun (a0 : List UInt8) => psigns a0) := by kernel_rfl
noncomputable def tab0_26 : ToldK := addTo tab0_25 84 psigns_e
theorem psigns_h : EntryOK tab0_25 code psigns_n FU 24 84 psigns_e := by
  intro args os t h
  unfold psigns_e at h
  split at h
  · rename_i os0 a0
    cases h
    exact ⟨_, _, fun p => (.tup [(.int .i64 p.1), (.int .i64 p.2)]), psigns_k, ids_all rfl, fun _ _ => rfl, (congrFun psigns_q _), fun sv os p hp => by
      unfold psigns_k at hp
      split at hp
      · have hp := dTy_ok hp
        split at hp
        · cases hp; exact ⟨rfl, rfl⟩
        · cases hp
      · cases hp⟩
  · cases h
/-! cubit/pattern.key -/
noncomputable def pkey_L0 (v : Vs) : Option (Vs ⊕ Vs) := sel v.1 [((asSl? (hV v.2 0)).bind fun x16 =>
((asInt? .i64 (hV v.2 1)).bind fun x17 =>
((asSl? (hV v.2 2)).bind fun x18 =>
((asInt? .i64 (hV v.2 3)).bind fun x19 =>
((asInt? .i64 (hV v.2 4)).bind fun x20 =>
((asStr? (hV v.2 5)).bind fun x21 =>
((asStr? (hV v.2 6)).bind fun x22 =>
((asStr? (hV v.2 7)).bind fun x23 =>
((asStr? (hV v.2 8)).bind fun x24 =>
((asStr? (hV v.2 9)).bind fun x25 =>
((asStr? (hV v.2 10)).bind fun x26 =>
(cond (decide (x20 < x19))
((idxL (x18.getD []) x20).bind fun x27 =>
((asStr? x27).bind fun x28 =>
((pname x28).bind fun x29 =>
(cond (!x29)
(some (.inr (0, [(.v (.bool false)), (.v (.str [])), (.v (.str [])), (.v (.str [])), (.v (.str [])), (.v (.str [])), (.v (.str []))])))
(some (.inl (0, [(.v (.sl x16)), (.v (.int .i64 x17)), (.v (.sl x18)), (.v (.int .i64 x19)), (.v (.int .i64 (IntKind.wrap .i64 (x20 + 1)))), (.v (.str x21)), (.v (.str x22)), (.v (.str x23)), (.v (.str x24)), (.v (.str x25)), (.v (.str x26))])))))))
(some (.inr (1, [(.v (.sl x16)), (.v (.int .i64 x17)), (.v (.str x21)), (.v (.str x22)), (.v (.str x23)), (.v (.str x24)), (.v (.str x25)), (.v (.str x26))])))))))))))))))]
noncomputable def pkey (a0 : Option (List V)) : Option (List UInt8 × List UInt8 × List UInt8 × List UInt8 × List UInt8 × List UInt8 × Bool) :=
((putE ⟨false, [.s]⟩ (.str [119, 111, 114, 100]) (T2.a (.v (.int .i64 7))) []).bind fun x0 =>
(chk (fits (x0.length + 1))
((putE ⟨false, [.s]⟩ (.str [112, 111, 119, 101, 114]) (T2.a (.v (.int .i64 6))) x0).bind fun x1 =>
(chk (fits (x1.length + 1))
((putE ⟨false, [.s]⟩ (.str [112, 114, 101, 102, 105, 120, 101, 100]) (T2.a (.v (.int .i64 5))) x1).bind fun x2 =>
(chk (fits (x2.length + 1))
((putE ⟨false, [.s]⟩ (.str [112, 101, 114]) (T2.a (.v (.int .i64 4))) x2).bind fun x3 =>
(chk (fits (x3.length + 1))
((putE ⟨false, [.s]⟩ (.str [116, 105, 109, 101, 115]) (T2.a (.v (.int .i64 4))) x3).bind fun x4 =>
((idxL (a0.getD []) 0).bind fun x5 =>
((asStr? x5).bind fun x6 =>
((lookE ⟨false, [.s]⟩ (.str x6) x4).bind fun x7 =>
((asInt? .i64 (x7.getD (.int .i64 0))).bind fun x8 =>
(cond (((slLen a0 : Nat) : Int) != x8)
(some ([], [], [], [], [], [], false))
((idxL (a0.getD []) 1).bind fun x9 =>
((asStr? x9).bind fun x10 =>
((plang x10).bind fun x11 =>
(cond (!x11)
(some ([], [], [], [], [], [], false))
((idxL (a0.getD []) 2).bind fun x12 =>
((asStr? x12).bind fun x13 =>
((pwidth x13).bind fun x14 =>
(cond (!x14)
(some ([], [], [], [], [], [], false))
((cutSl 1 (some 3) (some (IntKind.wrap .i64 (x8 - 1))) a0).bind fun x15 =>
((loopK pkey_L0 FU (0, [(.v (.sl a0)), (.v (.int .i64 x8)), (.v (.sl x15)), (.v (.int .i64 ((slLen x15 : Nat) : Int))), (.v (.int .i64 0)), (.v (.str [])), (.v (.str [])), (.v (.str [])), (.v (.str [])), (.v (.str [])), (.v (.str []))])).bind fun x30 => sel x30.1 [((asBool? (hV x30.2 0)).bind fun x31 =>
((asStr? (hV x30.2 1)).bind fun x32 =>
((asStr? (hV x30.2 2)).bind fun x33 =>
((asStr? (hV x30.2 3)).bind fun x34 =>
((asStr? (hV x30.2 4)).bind fun x35 =>
((asStr? (hV x30.2 5)).bind fun x36 =>
((asStr? (hV x30.2 6)).bind fun x37 =>
(some (x32, x33, x34, x35, x36, x37, x31))))))))),
((asSl? (hV x30.2 0)).bind fun x38 =>
((asInt? .i64 (hV x30.2 1)).bind fun x39 =>
((asStr? (hV x30.2 2)).bind fun x40 =>
((asStr? (hV x30.2 3)).bind fun x41 =>
((asStr? (hV x30.2 4)).bind fun x42 =>
((asStr? (hV x30.2 5)).bind fun x43 =>
((asStr? (hV x30.2 6)).bind fun x44 =>
((asStr? (hV x30.2 7)).bind fun x45 =>
((idxL (x38.getD []) 0).bind fun x46 =>
((asStr? x46).bind fun x47 =>
((idxL (x38.getD []) 1).bind fun x48 =>
((asStr? x48).bind fun x49 =>
((idxL (x38.getD []) 2).bind fun x50 =>
((asStr? x50).bind fun x51 =>
((idxL (x38.getD []) (IntKind.wrap .i64 (x39 - 1))).bind fun x52 =>
((asStr? x52).bind fun x53 =>
((rblank x53).bind fun x54 =>
((psigns x54).bind fun x55 =>
((idxL (x38.getD []) 0).bind fun x56 =>
((asStr? x56).bind fun x57 =>
(cond (x57 == [119, 111, 114, 100])
((idxL (x38.getD []) 3).bind fun x58 =>
((asStr? x58).bind fun x59 =>
((idxL (x38.getD []) 4).bind fun x60 =>
((asStr? x60).bind fun x61 =>
((idxL (x38.getD []) 5).bind fun x62 =>
((asStr? x62).bind fun x63 =>
((psome x63).bind fun x64 =>
(cond (decide (x55.1 ≤ 1))
(some (x47, x49, x51, x59, x61, x64, (x55.2 == 0)))
(some (x47, x49, x51, x59, x61, x64, false))))))))))
(cond (x57 == [112, 111, 119, 101, 114])
((idxL (x38.getD []) 3).bind fun x65 =>
((asStr? x65).bind fun x66 =>
((atoi x66).bind fun x67 =>
((idxL (x38.getD []) 3).bind fun x68 =>
((asStr? x68).bind fun x69 =>
((idxL (x38.getD []) 4).bind fun x70 =>
((asStr? x70).bind fun x71 =>
((psome x71).bind fun x72 =>
(cond (x55.1 == 1)
(cond (x55.2 == 0)
((nilI x67.2).bind fun x73 =>
(cond x73
((itoa x67.1).bind fun x74 =>
((idxL (x38.getD []) 3).bind fun x75 =>
((asStr? x75).bind fun x76 =>
(cond (x74 == x76)
(cond (decide (x67.1 ≥ 2))
(some (x47, x49, x51, x69, x72, [], (decide (x67.1 ≤ 15))))
(some (x47, x49, x51, x69, x72, [], false)))
(some (x47, x49, x51, x69, x72, [], false))))))
(some (x47, x49, x51, x69, x72, [], false))))
(some (x47, x49, x51, x69, x72, [], false)))
(some (x47, x49, x51, x69, x72, [], false)))))))))))
(cond (x57 == [112, 114, 101, 102, 105, 120, 101, 100])
((idxL (x38.getD []) 3).bind fun x77 =>
((asStr? x77).bind fun x78 =>
(cond (x55.1 == 1)
(some (x47, x49, x51, x78, [], [], (x55.2 == 0)))
(some (x47, x49, x51, x78, [], [], false)))))
(cond (x55.1 == 1)
(some (x47, x49, x51, [], [], [], (x55.2 == 1)))
(some (x47, x49, x51, [], [], [], false))))))))))))))))))))))))))]))))))))))))))))))))))))
noncomputable def pkey_e : List SV → Objs → Option ((β : Type) → (SV → Objs → Option β) → Option β)
  | [.a (.v (.sl a0))], os => some fun _ K => (pkey a0).bind fun p => K (.a (.v (.tup [(.agg [(.str p.1), (.str p.2.1), (.str p.2.2.1), (.str p.2.2.2.1), (.str p.2.2.2.2.1), (.str p.2.2.2.2.2.1)]), (.bool p.2.2.2.2.2.2)]))) os
  | _, _ => none
noncomputable def pkey_k (sv : SV) (os : Objs) : Option (List UInt8 × List UInt8 × List UInt8 × List UInt8 × List UInt8 × List UInt8 × Bool) := match sv, os with
  | .a (.v v), [] => dTy (.tup [(.agg [.str, .str, .str, .str, .str, .str]), (.k .bool)]) v fun v => (match v with | (.tup [(.agg [(.str r0), (.str r1), (.str r2), (.str r3), (.str r4), (.str r5)]), (.bool r6)]) => some (r0, r1, r2, r3, r4, r5, r6) | _ => none)
  | _, _ => none
noncomputable def pkey_n : FuncId → Nat → Ann := fun f n => match f, n with
  | 55, 0 => ⟨[(15, (.t1 (.k .str))), (17, (.t1 (.k (.int .i64)))), (24, (.t1 (.k .str))), (31, (.t1 (.k .str))), (44, (.t1 (.k .str))), (52, (.t1 (.k .str))), (55, (.t1 (.k .str))), (58, (.t1 (.k .str))), (65, (.t1 (.k .str))), (72, (.t1 (.k .str))), (77, (.t1 (.k .str))), (80, (.t1 (.k .str))), (83, (.t1 (.k .str))), (100, (.t1 (.k .str))), (106, (.t1 (.k .str))), (109, (.t1 (.k .str))), (129, (.t1 (.k .str))), (144, (.t1 (.k .str)))], [⟨[⟨[.a (.h (.t1 (.k .sl))), .u, .a (.loc 0 0), .u, .a (.h (.t1 (.k (.int .i64)))), .u, .u, .u, .u, .u, .u, .u, .u, .u, .u, .u, .u, .u, .u, .u, .u, .u, .u, .u, .u, .u, .u, .u, .u, .u, .u, .u, .u, .u, .u, .u, .u, .u, .u, .u, .a (.h (.t1 (.k .sl))), .a (.h (.t1 (.k (.int .i64)))), .a (.h (.t1 (.k (.int .i64)))), .u, .u, .u, .u, .u, .u, .u, .u, .u, .u, .u, .u, .u, .u, .u, .u, .u, .u, .u, .u, .u, .u, .u, .u, .u, .u, .u, .u, .u, .u, .u, .u, .u, .u, .u, .u, .u, .u, .u, .u, .u, .u, .u, .u, .u, .u, .u, .u, .u, .u, .u, .u, .u, .u, .u, .u, .u, .u, .u, .u, .u, .u, .u, .u, .u, .u, .u, .u, .u, .u, .u, .u, .u, .u, .u, .u, .u, .u, .u, .u, .u, .u, .u, .u, .u, .u, .u, .u, .u, .u, .u, .u, .u, .u, .u, .u, .u, .u, .u, .u, .u, .u, .u, .u, .u, .u, .u, .u, .u, .u, .u, .u, .u, .u, .u, .u, .u, .u], [.box 46 [.h (.t1 (.k .str)), .h (.t1 (.k .str)), .h (.t1 (.k .str)), .h (.t1 (.k .str)), .h (.t1 (.k .str)), .h (.t1 (.k .str))]]⟩], [(.ret, ⟨[.u, .u, .a (.loc 0 0), .a (.h (.t1 (.k .bool))), .u, .u, .u, .u, .u, .u, .u, .u, .u, .u, .u, .u, .u, .u, .u, .u, .u, .u, .u, .u, .u, .u, .u, .u, .u, .u, .u, .u, .u, .u, .u, .u, .u, .u, .u, .u, .u, .u, .u, .u, .u, .u, .u, .u, .u, .u, .u, .u, .u, .u, .u, .u, .u, .u, .u, .u, .u, .u, .u, .u, .u, .u, .u, .u, .u, .u, .u, .u, .u, .u, .u, .u, .u, .u, .u, .u, .u, .u, .u, .u, .u, .u, .u, .u, .u, .u, .u, .u, .u, .u, .u, .u, .u, .u, .u, .u, .u, .u, .u, .u, .u, .u, .u, .u, .u, .u, .u, .u, .u, .u, .u, .u, .u, .u, .u, .u, .u, .u, .u, .u, .u, .u, .u, .u, .u, .u, .u, .u, .u, .u, .u, .u, .u, .u, .u, .u, .u, .u, .u, .u, .u, .u, .u, .u, .u, .u, .u, .u, .u, .u, .u, .u, .u, .u, .u, .u, .u], [.box 46 [.h (.t1 (.k .str)), .h (.t1 (.k .str)), .h (.t1 (.k .str)), .h (.t1 (.k .str)), .h (.t1 (.k .str)), .h (.t1 (.k .str))]]⟩), ((.ex 0), ⟨[.a (.h (.t1 (.k .sl))), .u, .a (.loc 0 0), .u, .a (.h (.t1 (.k (.int .i64)))), .u, .u, .u, .u, .u, .u, .u, .u, .u, .u, .u, .u, .u, .u, .u, .u, .u, .u, .u, .u, .u, .u, .u, .u, .u, .u, .u, .u, .u, .u, .u, .u, .u, .u, .u, .u, .u, .u, .u, .u, .u, .u, .u, .u, .u, .u, .u, .u, .u, .u, .u, .u, .u, .u, .u, .u, .u, .u, .u, .u, .u, .u, .u, .u, .u, .u, .u, .u, .u, .u, .u, .u, .u, .u, .u, .u, .u, .u, .u, .u, .u, .u, .u, .u, .u, .u, .u, .u, .u, .u, .u, .u, .u, .u, .u, .u, .u, .u, .u, .u, .u, .u, .u, .u, .u, .u, .u, .u, .u, .u, .u, .u, .u, .u, .u, .u, .u, .u, .u, .u, .u, .u, .u, .u, .u, .u, .u, .u, .u, .u, .u, .u, .u, .u, .u, .u, .u, .u, .u, .u, .u, .u, .u, .u, .u, .u, .u, .u, .u, .u, .u, .u, .u, .u, .u, .u], [.box 46 [.h (.t1 (.k .str)), .h (.t1 (.k .str)), .h (.t1 (.k .str)), .h (.t1 (.k .str)), .h (.t1 (.k .str)), .h (.t1 (.k .str))]]⟩)]⟩], false⟩
  | _, _ => ⟨[], [], false⟩
theorem pkey_q : (fun (a0 : Option (List V)) => stN tab0_26 code pkey_n FU 24 55 [.a (.v (.sl a0))] [] pkey_k) = (fun (a0 : Option (List V)) => pkey a0) := by kernel_rfl
noncomputable def tab0_27 : ToldK := addTo tab0_26 55 pkey_e
theorem pkey_h : EntryOK tab0_26 code pkey_n FU 24 55 pkey_e := by
  intro args os t h
  unfold pkey_e at h
  split at h
  · rename_i os0 a0
    cases h
    exact ⟨_, _, fun p => (.tup [(.agg [(.str p.1), (.str p.2.1), (.str p.2.2.1), (.str p.2.2.2.1), (.str p.2.2.2.2.1), (.str p.2.2.2.2.2.1)]), (.bool p.2.2.2.2.2.2)]), pkey_k, ids_all rfl, fun _ _ => rfl, (congrFun pkey_q _), fun sv os p hp => by
      unfold pkey_k at hp
      split at hp
      · have hp := dTy_ok hp
        split at hp
        · cases hp; exact ⟨rfl, rfl⟩
        · cases hp
      · cases hp⟩
  · cases h
/-! cubit/pattern.Load -/
noncomputable def pload_L1 (v : Vs) : Option (Vs ⊕ Vs) := sel v.1 [((asStr? (hV v.2 0)).bind fun x29 =>
((asBool? (hV v.2 1)).bind fun x30 =>
(cond x30
(cond (!(x29 == [114, 111, 111, 116]))
((lookE ⟨false, [.s]⟩ (.str x29) (hM v.2 3)).bind fun x31 =>
((asStr? (x31.getD (.str []))).bind fun x32 =>
(some (.inl (1, [(.v (.str x32)), (.v (.bool (x31.isSome))), (.m (hM v.2 2)), (.m (hM v.2 3)), (.l [(.str x29)])])))))
(some (.inr (0, [(.m (hM v.2 2)), (.m (hM v.2 3))]))))
(some (.inr (0, [(.m (hM v.2 2)), (.m (hM v.2 3))])))))),
((asStr? (hV v.2 0)).bind fun x33 =>
((asBool? (hV v.2 1)).bind fun x34 =>
(cond x34
(cond (!(x33 == [114, 111, 111, 116]))
(chk ((fits ((hL v.2 4).length + 1)) && true)
((lookE ⟨false, [.s]⟩ (.str x33) (hM v.2 3)).bind fun x35 =>
((asStr? (x35.getD (.str []))).bind fun x36 =>
(some (.inl (1, [(.v (.str x36)), (.v (.bool (x35.isSome))), (.m (hM v.2 2)), (.m (hM v.2 3)), (.l ((hL v.2 4) ++ [(.str x33)] : List V))]))))))
(some (.inr (1, [(.m (hM v.2 2)), (.m (hM v.2 3)), (.l (hL v.2 4))]))))
(some (.inr (1, [(.m (hM v.2 2)), (.m (hM v.2 3)), (.l (hL v.2 4))]))))))]
noncomputable def pload_L2 (v : Vs) : Option (Vs ⊕ Vs) := sel v.1 [((asSl? (hV v.2 0)).bind fun x40 =>
((asStr? (hV v.2 1)).bind fun x41 =>
((asInt? .i64 (hV v.2 2)).bind fun x42 =>
((asInt? .i64 (hV v.2 3)).bind fun x43 =>
(cond (decide (x43 < x42))
((idxL (x40.getD []) x43).bind fun x44 =>
((asStr? x44).bind fun x45 =>
(cond (x41 == x45)
(some (.inr (0, [(.v (.int .i64 x43))])))
(some (.inl (0, [(.v (.sl x40)), (.v (.str x41)), (.v (.int .i64 x42)), (.v (.int .i64 (IntKind.wrap .i64 (x43 + 1))))]))))))
(some (.inr (1, []))))))))]
noncomputable def pload_L0 (v : Vs) : Option (Vs ⊕ Vs) := sel v.1 [((asSl? (hV v.2 0)).bind fun x0 =>
((asInt? .i64 (hV v.2 1)).bind fun x1 =>
((asInt? .i64 (hV v.2 2)).bind fun x2 =>
(cond (decide (x2 < x1))
((idxL (x0.getD []) x2).bind fun x3 =>
((asAgg? 2 x3).bind fun x4 =>
((asInt? .i64 (x4.getD 0 .nilp)).bind fun x5 =>
((asSl? (x4.getD 1 .nilp)).bind fun x6 =>
(cond (((slLen x6 : Nat) : Int) == 0)
(some (.inl (0, [(.v (.sl x0)), (.v (.int .i64 x1)), (.v (.int .i64 (IntKind.wrap .i64 (x2 + 1)))), (.m (hM v.2 3)), (.m (hM v.2 4))])))
((idxL (x6.getD []) 0).bind fun x7 =>
((asStr? x7).bind fun x8 =>
(cond (x8 == [119, 111, 114, 100])
(cond (x8 == [119, 111, 114, 100])
((pkey x6).bind fun x9 =>
(cond (!x9.2.2.2.2.2.2)
(some (.inr (0, [(.v (.int .i64 x5)), (.v (.int .i64 2))])))
((lookE ⟨true, [.s, .s, .s, .s, .s, .s]⟩ (.agg [(.str x9.1), (.str x9.2.1), (.str x9.2.2.1), (.str x9.2.2.2.1), (.str x9.2.2.2.2.1), (.str x9.2.2.2.2.2.1)]) (hM v.2 3)).bind fun x10 =>
((asStr? (x10.getD (.str []))).bind fun x11 =>
(cond (x10.isSome)
(some (.inr (0, [(.v (.int .i64 x5)), (.v (.int .i64 10))])))
((idxL (x6.getD []) (IntKind.wrap .i64 (((slLen x6 : Nat) : Int) - 1))).bind fun x12 =>
((asStr? x12).bind fun x13 =>
((rblank x13).bind fun x14 =>
(chk (fits ((hM v.2 3).length + 1))
((putE ⟨true, [.s, .s, .s, .s, .s, .s]⟩ (.agg [(.str x9.1), (.str x9.2.1), (.str x9.2.2.1), (.str x9.2.2.2.1), (.str x9.2.2.2.2.1), (.str x9.2.2.2.2.2.1)]) (T2.a (.v (.str x14))) (hM v.2 3)).bind fun x15 =>
(some (.inl (0, [(.v (.sl x0)), (.v (.int .i64 x1)), (.v (.int .i64 (IntKind.wrap .i64 (x2 + 1)))), (.m x15), (.m (hM v.2 4))])))))))))))))
(cond (x8 == [112, 97, 114, 101, 110, 116])
((cutSl 1 (some 1) none x6).bind fun x16 =>
(cond (((slLen x16 : Nat) : Int) != 2)
(some (.inr (0, [(.v (.int .i64 x5)), (.v (.int .i64 2))])))
((idxL (x16.getD []) 0).bind fun x17 =>
((asStr? x17).bind fun x18 =>
((plang x18).bind fun x19 =>
(cond (!x19)
(some (.inr (0, [(.v (.int .i64 x5)), (.v (.int .i64 2))])))
((idxL (x16.getD []) 1).bind fun x20 =>
((asStr? x20).bind fun x21 =>
((plang x21).bind fun x22 =>
(cond (!x22)
(some (.inr (0, [(.v (.int .i64 x5)), (.v (.int .i64 2))])))
((idxL (x16.getD []) 0).bind fun x23 =>
((asStr? x23).bind fun x24 =>
((lookE ⟨false, [.s]⟩ (.str x24) (hM v.2 4)).bind fun x25 =>
((asStr? (x25.getD (.str []))).bind fun x26 =>
(cond (!(x26 == []))
(some (.inr (0, [(.v (.int .i64 x5)), (.v (.int .i64 10))])))
((idxL (x16.getD []) 1).bind fun x27 =>
((asStr? x27).bind fun x28 =>
((loopK pload_L1 FU (0, [(.v (.str x28)), (.v (.bool true)), (.m (hM v.2 3)), (.m (hM v.2 4))])).bind fun x37 => sel x37.1 [((idxL (x16.getD []) 0).bind fun x38 =>
((asStr? x38).bind fun x39 =>
((loopK pload_L2 FU (0, [(.v (.sl (some [(.str [114, 111, 111, 116])]))), (.v (.str x39)), (.v (.int .i64 1)), (.v (.int .i64 0))])).bind fun x46 => sel x46.1 [((asInt? .i64 (hV x46.2 0)).bind fun x47 =>
(cond (decide (x47 ≥ 0))
(some (.inr (0, [(.v (.int .i64 x5)), (.v (.int .i64 7))])))
((idxL (x16.getD []) 0).bind fun x48 =>
((asStr? x48).bind fun x49 =>
((idxL (x16.getD []) 1).bind fun x50 =>
((asStr? x50).bind fun x51 =>
(chk (fits ((hM x37.2 1).length + 1))
((putE ⟨false, [.s]⟩ (.str x49) (T2.a (.v (.str x51))) (hM x37.2 1)).bind fun x52 =>
(some (.inl (0, [(.v (.sl x0)), (.v (.int .i64 x1)), (.v (.int .i64 (IntKind.wrap .i64 (x2 + 1)))), (.m (hM x37.2 0)), (.m x52)]))))))))))),
((idxL (x16.getD []) 0).bind fun x53 =>
((asStr? x53).bind fun x54 =>
((idxL (x16.getD []) 1).bind fun x55 =>
((asStr? x55).bind fun x56 =>
(chk (fits ((hM x37.2 1).length + 1))
((putE ⟨false, [.s]⟩ (.str x54) (T2.a (.v (.str x56))) (hM x37.2 1)).bind fun x57 =>
(some (.inl (0, [(.v (.sl x0)), (.v (.int .i64 x1)), (.v (.int .i64 (IntKind.wrap .i64 (x2 + 1)))), (.m (hM x37.2 0)), (.m x57)])))))))))]))),
(chk ((fits ((hL x37.2 2).length + 1)) && true)
((idxL (x16.getD []) 0).bind fun x58 =>
((asStr? x58).bind fun x59 =>
((loopK pload_L2 FU (0, [(.v (.sl (some ((hL x37.2 2) ++ [(.str [114, 111, 111, 116])] : List V)))), (.v (.str x59)), (.v (.int .i64 ((slLen (some ((hL x37.2 2) ++ [(.str [114, 111, 111, 116])] : List V)) : Nat) : Int))), (.v (.int .i64 0))])).bind fun x66 => sel x66.1 [((asInt? .i64 (hV x66.2 0)).bind fun x67 =>
(cond (decide (x67 ≥ 0))
(some (.inr (0, [(.v (.int .i64 x5)), (.v (.int .i64 7))])))
((idxL (x16.getD []) 0).bind fun x68 =>
((asStr? x68).bind fun x69 =>
((idxL (x16.getD []) 1).bind fun x70 =>
((asStr? x70).bind fun x71 =>
(chk (fits ((hM x37.2 1).length + 1))
((putE ⟨false, [.s]⟩ (.str x69) (T2.a (.v (.str x71))) (hM x37.2 1)).bind fun x72 =>
(some (.inl (0, [(.v (.sl x0)), (.v (.int .i64 x1)), (.v (.int .i64 (IntKind.wrap .i64 (x2 + 1)))), (.m (hM x37.2 0)), (.m x72)]))))))))))),
((idxL (x16.getD []) 0).bind fun x73 =>
((asStr? x73).bind fun x74 =>
((idxL (x16.getD []) 1).bind fun x75 =>
((asStr? x75).bind fun x76 =>
(chk (fits ((hM x37.2 1).length + 1))
((putE ⟨false, [.s]⟩ (.str x74) (T2.a (.v (.str x76))) (hM x37.2 1)).bind fun x77 =>
(some (.inl (0, [(.v (.sl x0)), (.v (.int .i64 x1)), (.v (.int .i64 (IntKind.wrap .i64 (x2 + 1)))), (.m (hM x37.2 0)), (.m x77)])))))))))]))))]))))))))))))))))))
(some (.inl (0, [(.v (.sl x0)), (.v (.int .i64 x1)), (.v (.int .i64 (IntKind.wrap .i64 (x2 + 1)))), (.m (hM v.2 3)), (.m (hM v.2 4))])))))
(cond (x8 == [112, 111, 119, 101, 114])
(cond (x8 == [112, 111, 119, 101, 114])
((pkey x6).bind fun x78 =>
(cond (!x78.2.2.2.2.2.2)
(some (.inr (0, [(.v (.int .i64 x5)), (.v (.int .i64 2))])))
((lookE ⟨true, [.s, .s, .s, .s, .s, .s]⟩ (.agg [(.str x78.1), (.str x78.2.1), (.str x78.2.2.1), (.str x78.2.2.2.1), (.str x78.2.2.2.2.1), (.str x78.2.2.2.2.2.1)]) (hM v.2 3)).bind fun x79 =>
((asStr? (x79.getD (.str []))).bind fun x80 =>
(cond (x79.isSome)
(some (.inr (0, [(.v (.int .i64 x5)), (.v (.int .i64 10))])))
((idxL (x6.getD []) (IntKind.wrap .i64 (((slLen x6 : Nat) : Int) - 1))).bind fun x81 =>
((asStr? x81).bind fun x82 =>
((rblank x82).bind fun x83 =>
(chk (fits ((hM v.2 3).length + 1))
((putE ⟨true, [.s, .s, .s, .s, .s, .s]⟩ (.agg [(.str x78.1), (.str x78.2.1), (.str x78.2.2.1), (.str x78.2.2.2.1), (.str x78.2.2.2.2.1), (.str x78.2.2.2.2.2.1)]) (T2.a (.v (.str x83))) (hM v.2 3)).bind fun x84 =>
(some (.inl (0, [(.v (.sl x0)), (.v (.int .i64 x1)), (.v (.int .i64 (IntKind.wrap .i64 (x2 + 1)))), (.m x84), (.m (hM v.2 4))])))))))))))))
(cond (x8 == [112, 97, 114, 101, 110, 116])
((cutSl 1 (some 1) none x6).bind fun x85 =>
(cond (((slLen x85 : Nat) : Int) != 2)
(some (.inr (0, [(.v (.int .i64 x5)), (.v (.int .i64 2))])))
((idxL (x85.getD []) 0).bind fun x86 =>
((asStr? x86).bind fun x87 =>
((plang x87).bind fun x88 =>
(cond (!x88)
(some (.inr (0, [(.v (.int .i64 x5)), (.v (.int .i64 2))])))
((idxL (x85.getD []) 1).bind fun x89 =>
((asStr? x89).bind fun x90 =>
((plang x90).bind fun x91 =>
(cond (!x91)
(some (.inr (0, [(.v (.int .i64 x5)), (.v (.int .i64 2))])))
((idxL (x85.getD []) 0).bind fun x92 =>
((asStr? x92).bind fun x93 =>
((lookE ⟨false, [.s]⟩ (.str x93) (hM v.2 4)).bind fun x94 =>
((asStr? (x94.getD (.str []))).bind fun x95 =>
(cond (!(x95 == []))
(some (.inr (0, [(.v (.int .i64 x5)), (.v (.int .i64 10))])))
((idxL (x85.getD []) 1).bind fun x96 =>
((asStr? x96).bind fun x97 =>
((loopK pload_L1 FU (0, [(.v (.str x97)), (.v (.bool true)), (.m (hM v.2 3)), (.m (hM v.2 4))])).bind fun x106 => sel x106.1 [((idxL (x85.getD []) 0).bind fun x107 =>
((asStr? x107).bind fun x108 =>
((loopK pload_L2 FU (0, [(.v (.sl (some [(.str [114, 111, 111, 116])]))), (.v (.str x108)), (.v (.int .i64 1)), (.v (.int .i64 0))])).bind fun x115 => sel x115.1 [((asInt? .i64 (hV x115.2 0)).bind fun x116 =>
(cond (decide (x116 ≥ 0))
(some (.inr (0, [(.v (.int .i64 x5)), (.v (.int .i64 7))])))
((idxL (x85.getD []) 0).bind fun x117 =>
((asStr? x117).bind fun x118 =>
((idxL (x85.getD []) 1).bind fun x119 =>
((asStr? x119).bind fun x120 =>
(chk (fits ((hM x106.2 1).length + 1))
((putE ⟨false, [.s]⟩ (.str x118) (T2.a (.v (.str x120))) (hM x106.2 1)).bind fun x121 =>
(some (.inl (0, [(.v (.sl x0)), (.v (.int .i64 x1)), (.v (.int .i64 (IntKind.wrap .i64 (x2 + 1)))), (.m (hM x106.2 0)), (.m x121)]))))))))))),
((idxL (x85.getD []) 0).bind fun x122 =>
((asStr? x122).bind fun x123 =>
((idxL (x85.getD []) 1).bind fun x124 =>
((asStr? x124).bind fun x125 =>
(chk (fits ((hM x106.2 1).length + 1))
((putE ⟨false, [.s]⟩ (.str x123) (T2.a (.v (.str x125))) (hM x106.2 1)).bind fun x126 =>
(some (.inl (0, [(.v (.sl x0)), (.v (.int .i64 x1)), (.v (.int .i64 (IntKind.wrap .i64 (x2 + 1)))), (.m (hM x106.2 0)), (.m x126)])))))))))]))),
(chk ((fits ((hL x106.2 2).length + 1)) && true)
((idxL (x85.getD []) 0).bind fun x127 =>
((asStr? x127).bind fun x128 =>
((loopK pload_L2 FU (0, [(.v (.sl (some ((hL x106.2 2) ++ [(.str [114, 111, 111, 116])] : List V)))), (.v (.str x128)), (.v (.int .i64 ((slLen (some ((hL x106.2 2) ++ [(.str [114, 111, 111, 116])] : List V)) : Nat) : Int))), (.v (.int .i64 0))])).bind fun x135 => sel x135.1 [((asInt? .i64 (hV x135.2 0)).bind fun x136 =>
(cond (decide (x136 ≥ 0))
(some (.inr (0, [(.v (.int .i64 x5)), (.v (.int .i64 7))])))
((idxL (x85.getD []) 0).bind fun x137 =>
((asStr? x137).bind fun x138 =>
((idxL (x85.getD []) 1).bind fun x139 =>
((asStr? x139).bind fun x140 =>
(chk (fits ((hM x106.2 1).length + 1))
((putE ⟨false, [.s]⟩ (.str x138) (T2.a (.v (.str x140))) (hM x106.2 1)).bind fun x141 =>
(some (.inl (0, [(.v (.sl x0)), (.v (.int .i64 x1)), (.v (.int .i64 (IntKind.wrap .i64 (x2 + 1)))), (.m (hM x106.2 0)), (.m x141)]))))))))))),
((idxL (x85.getD []) 0).bind fun x142 =>
((asStr? x142).bind fun x143 =>
((idxL (x85.getD []) 1).bind fun x144 =>
((asStr? x144).bind fun x145 =>
(chk (fits ((hM x106.2 1).length + 1))
((putE ⟨false, [.s]⟩ (.str x143) (T2.a (.v (.str x145))) (hM x106.2 1)).bind fun x146 =>
(some (.inl (0, [(.v (.sl x0)), (.v (.int .i64 x1)), (.v (.int .i64 (IntKind.wrap .i64 (x2 + 1)))), (.m (hM x106.2 0)), (.m x146)])))))))))]))))]))))))))))))))))))
(some (.inl (0, [(.v (.sl x0)), (.v (.int .i64 x1)), (.v (.int .i64 (IntKind.wrap .i64 (x2 + 1)))), (.m (hM v.2 3)), (.m (hM v.2 4))])))))
(cond (x8 == [112, 114, 101, 102, 105, 120, 101, 100])
(cond (x8 == [112, 114, 101, 102, 105, 120, 101, 100])
((pkey x6).bind fun x147 =>
(cond (!x147.2.2.2.2.2.2)
(some (.inr (0, [(.v (.int .i64 x5)), (.v (.int .i64 2))])))
((lookE ⟨true, [.s, .s, .s, .s, .s, .s]⟩ (.agg [(.str x147.1), (.str x147.2.1), (.str x147.2.2.1), (.str x147.2.2.2.1), (.str x147.2.2.2.2.1), (.str x147.2.2.2.2.2.1)]) (hM v.2 3)).bind fun x148 =>
((asStr? (x148.getD (.str []))).bind fun x149 =>
(cond (x148.isSome)
(some (.inr (0, [(.v (.int .i64 x5)), (.v (.int .i64 10))])))
((idxL (x6.getD []) (IntKind.wrap .i64 (((slLen x6 : Nat) : Int) - 1))).bind fun x150 =>
((asStr? x150).bind fun x151 =>
((rblank x151).bind fun x152 =>
(chk (fits ((hM v.2 3).length + 1))
((putE ⟨true, [.s, .s, .s, .s, .s, .s]⟩ (.agg [(.str x147.1), (.str x147.2.1), (.str x147.2.2.1), (.str x147.2.2.2.1), (.str x147.2.2.2.2.1), (.str x147.2.2.2.2.2.1)]) (T2.a (.v (.str x152))) (hM v.2 3)).bind fun x153 =>
(some (.inl (0, [(.v (.sl x0)), (.v (.int .i64 x1)), (.v (.int .i64 (IntKind.wrap .i64 (x2 + 1)))), (.m x153), (.m (hM v.2 4))])))))))))))))
(cond (x8 == [112, 97, 114, 101, 110, 116])
((cutSl 1 (some 1) none x6).bind fun x154 =>
(cond (((slLen x154 : Nat) : Int) != 2)
(some (.inr (0, [(.v (.int .i64 x5)), (.v (.int .i64 2))])))
((idxL (x154.getD []) 0).bind fun x155 =>
((asStr? x155).bind fun x156 =>
((plang x156).bind fun x157 =>
(cond (!x157)
(some (.inr (0, [(.v (.int .i64 x5)), (.v (.int .i64 2))])))
((idxL (x154.getD []) 1).bind fun x158 =>
((asStr? x158).bind fun x159 =>
((plang x159).bind fun x160 =>
(cond (!x160)
(some (.inr (0, [(.v (.int .i64 x5)), (.v (.int .i64 2))])))
((idxL (x154.getD []) 0).bind fun x161 =>
((asStr? x161).bind fun x162 =>
((lookE ⟨false, [.s]⟩ (.str x162) (hM v.2 4)).bind fun x163 =>
((asStr? (x163.getD (.str []))).bind fun x164 =>
(cond (!(x164 == []))
(some (.inr (0, [(.v (.int .i64 x5)), (.v (.int .i64 10))])))
((idxL (x154.getD []) 1).bind fun x165 =>
((asStr? x165).bind fun x166 =>
((loopK pload_L1 FU (0, [(.v (.str x166)), (.v (.bool true)), (.m (hM v.2 3)), (.m (hM v.2 4))])).bind fun x175 => sel x175.1 [((idxL (x154.getD []) 0).bind fun x176 =>
((asStr? x176).bind fun x177 =>
((loopK pload_L2 FU (0, [(.v (.sl (some [(.str [114, 111, 111, 116])]))), (.v (.str x177)), (.v (.int .i64 1)), (.v (.int .i64 0))])).bind fun x184 => sel x184.1 [((asInt? .i64 (hV x184.2 0)).bind fun x185 =>
(cond (decide (x185 ≥ 0))
(some (.inr (0, [(.v (.int .i64 x5)), (.v (.int .i64 7))])))
((idxL (x154.getD []) 0).bind fun x186 =>
((asStr? x186).bind fun x187 =>
((idxL (x154.getD []) 1).bind fun x188 =>
((asStr? x188).bind fun x189 =>
(chk (fits ((hM x175.2 1).length + 1))
((putE ⟨false, [.s]⟩ (.str x187) (T2.a (.v (.str x189))) (hM x175.2 1)).bind fun x190 =>
(some (.inl (0, [(.v (.sl x0)), (.v (.int .i64 x1)), (.v (.int .i64 (IntKind.wrap .i64 (x2 + 1)))), (.m (hM x175.2 0)), (.m x190)]))))))))))),
((idxL (x154.getD []) 0).bind fun x191 =>
((asStr? x191).bind fun x192 =>
((idxL (x154.getD []) 1).bind fun x193 =>
((asStr? x193).bind fun x194 =>
(chk (fits ((hM x175.2 1).length + 1))
((putE ⟨false, [.s]⟩ (.str x192) (T2.a (.v (.str x194))) (hM x175.2 1)).bind fun x195 =>
(some (.inl (0, [(.v (.sl x0)), (.v (.int .i64 x1)), (.v (.int .i64 (IntKind.wrap .i64 (x2 + 1)))), (.m (hM x175.2 0)), (.m x195)])))))))))]))),
(chk ((fits ((hL x175.2 2).length + 1)) && true)
((idxL (x154.getD []) 0).bind fun x196 =>
((asStr? x196).bind fun x197 =>
((loopK pload_L2 FU (0, [(.v (.sl (some ((hL x175.2 2) ++ [(.str [114, 111, 111, 116])] : List V)))), (.v (.str x197)), (.v (.int .i64 ((slLen (some ((hL x175.2 2) ++ [(.str [114, 111, 111, 116])] : List V)) : Nat) : Int))), (.v (.int .i64 0))])).bind fun x204 => sel x204.1 [((asInt? .i64 (hV x204.2 0)).bind fun x205 =>
(cond (decide (x205 ≥ 0))
(some (.inr (0, [(.v (.int .i64 x5)), (.v (.int .i64 7))])))
((idxL (x154.getD []) 0).bind fun x206 =>
((asStr? x206).bind fun x207 =>
((idxL (x154.getD []) 1).bind fun x208 =>
((asStr? x208).bind fun x209 =>
(chk (fits ((hM x175.2 1).length + 1))
((putE ⟨false, [.s]⟩ (.str x207) (T2.a (.v (.str x209))) (hM x175.2 1)).bind fun x210 =>
(some (.inl (0, [(.v (.sl x0)), (.v (.int .i64 x1)), (.v (.int .i64 (IntKind.wrap .i64 (x2 + 1)))), (.m (hM x175.2 0)), (.m x210)]))))))))))),
((idxL (x154.getD []) 0).bind fun x211 =>
((asStr? x211).bind fun x212 =>
((idxL (x154.getD []) 1).bind fun x213 =>
((asStr? x213).bind fun x214 =>
(chk (fits ((hM x175.2 1).length + 1))
((putE ⟨false, [.s]⟩ (.str x212) (T2.a (.v (.str x214))) (hM x175.2 1)).bind fun x215 =>
(some (.inl (0, [(.v (.sl x0)), (.v (.int .i64 x1)), (.v (.int .i64 (IntKind.wrap .i64 (x2 + 1)))), (.m (hM x175.2 0)), (.m x215)])))))))))]))))]))))))))))))))))))
(some (.inl (0, [(.v (.sl x0)), (.v (.int .i64 x1)), (.v (.int .i64 (IntKind.wrap .i64 (x2 + 1)))), (.m (hM v.2 3)), (.m (hM v.2 4))])))))
(cond (x8 == [112, 101, 114])
(cond (x8 == [112, 101, 114])
((pkey x6).bind fun x216 =>
(cond (!x216.2.2.2.2.2.2)
(some (.inr (0, [(.v (.int .i64 x5)), (.v (.int .i64 2))])))
((lookE ⟨true, [.s, .s, .s, .s, .s, .s]⟩ (.agg [(.str x216.1), (.str x216.2.1), (.str x216.2.2.1), (.str x216.2.2.2.1), (.str x216.2.2.2.2.1), (.str x216.2.2.2.2.2.1)]) (hM v.2 3)).bind fun x217 =>
((asStr? (x217.getD (.str []))).bind fun x218 =>
(cond (x217.isSome)
(some (.inr (0, [(.v (.int .i64 x5)), (.v (.int .i64 10))])))
((idxL (x6.getD []) (IntKind.wrap .i64 (((slLen x6 : Nat) : Int) - 1))).bind fun x219 =>
((asStr? x219).bind fun x220 =>
((rblank x220).bind fun x221 =>
(chk (fits ((hM v.2 3).length + 1))
((putE ⟨true, [.s, .s, .s, .s, .s, .s]⟩ (.agg [(.str x216.1), (.str x216.2.1), (.str x216.2.2.1), (.str x216.2.2.2.1), (.str x216.2.2.2.2.1), (.str x216.2.2.2.2.2.1)]) (T2.a (.v (.str x221))) (hM v.2 3)).bind fun x222 =>
(some (.inl (0, [(.v (.sl x0)), (.v (.int .i64 x1)), (.v (.int .i64 (IntKind.wrap .i64 (x2 + 1)))), (.m x222), (.m (hM v.2 4))])))))))))))))
(cond (x8 == [112, 97, 114, 101, 110, 116])
((cutSl 1 (some 1) none x6).bind fun x223 =>
(cond (((slLen x223 : Nat) : Int) != 2)
(some (.inr (0, [(.v (.int .i64 x5)), (.v (.int .i64 2))])))
((idxL (x223.getD []) 0).bind fun x224 =>
((asStr? x224).bind fun x225 =>
((plang x225).bind fun x226 =>
(cond (!x226)
(some (.inr (0, [(.v (.int .i64 x5)), (.v (.int .i64 2))])))
((idxL (x223.getD []) 1).bind fun x227 =>
((asStr? x227).bind fun x228 =>
((plang x228).bind fun x229 =>
(cond (!x229)
(some (.inr (0, [(.v (.int .i64 x5)), (.v (.int .i64 2))])))
((idxL (x223.getD []) 0).bind fun x230 =>
((asStr? x230).bind fun x231 =>
((lookE ⟨false, [.s]⟩ (.str x231) (hM v.2 4)).bind fun x232 =>
((asStr? (x232.getD (.str []))).bind fun x233 =>
(cond (!(x233 == []))
(some (.inr (0, [(.v (.int .i64 x5)), (.v (.int .i64 10))])))
((idxL (x223.getD []) 1).bind fun x234 =>
((asStr? x234).bind fun x235 =>
((loopK pload_L1 FU (0, [(.v (.str x235)), (.v (.bool true)), (.m (hM v.2 3)), (.m (hM v.2 4))])).bind fun x244 => sel x244.1 [((idxL (x223.getD []) 0).bind fun x245 =>
((asStr? x245).bind fun x246 =>
((loopK pload_L2 FU (0, [(.v (.sl (some [(.str [114, 111, 111, 116])]))), (.v (.str x246)), (.v (.int .i64 1)), (.v (.int .i64 0))])).bind fun x253 => sel x253.1 [((asInt? .i64 (hV x253.2 0)).bind fun x254 =>
(cond (decide (x254 ≥ 0))
(some (.inr (0, [(.v (.int .i64 x5)), (.v (.int .i64 7))])))
((idxL (x223.getD []) 0).bind fun x255 =>
((asStr? x255).bind fun x256 =>
((idxL (x223.getD []) 1).bind fun x257 =>
((asStr? x257).bind fun x258 =>
(chk (fits ((hM x244.2 1).length + 1))
((putE ⟨false, [.s]⟩ (.str x256) (T2.a (.v (.str x258))) (hM x244.2 1)).bind fun x259 =>
(some (.inl (0, [(.v (.sl x0)), (.v (.int .i64 x1)), (.v (.int .i64 (IntKind.wrap .i64 (x2 + 1)))), (.m (hM x244.2 0)), (.m x259)]))))))))))),
((idxL (x223.getD []) 0).bind fun x260 =>
((asStr? x260).bind fun x261 =>
((idxL (x223.getD []) 1).bind fun x262 =>
((asStr? x262).bind fun x263 =>
(chk (fits ((hM x244.2 1).length + 1))
((putE ⟨false, [.s]⟩ (.str x261) (T2.a (.v (.str x263))) (hM x244.2 1)).bind fun x264 =>
(some (.inl (0, [(.v (.sl x0)), (.v (.int .i64 x1)), (.v (.int .i64 (IntKind.wrap .i64 (x2 + 1)))), (.m (hM x244.2 0)), (.m x264)])))))))))]))),
(chk ((fits ((hL x244.2 2).length + 1)) && true)
((idxL (x223.getD []) 0).bind fun x265 =>
((asStr? x265).bind fun x266 =>
((loopK pload_L2 FU (0, [(.v (.sl (some ((hL x244.2 2) ++ [(.str [114, 111, 111, 116])] : List V)))), (.v (.str x266)), (.v (.int .i64 ((slLen (some ((hL x244.2 2) ++ [(.str [114, 111, 111, 116])] : List V)) : Nat) : Int))), (.v (.int .i64 0))])).bind fun x273 => sel x273.1 [((asInt? .i64 (hV x273.2 0)).bind fun x274 =>
(cond (decide (x274 ≥ 0))
(some (.inr (0, [(.v (.int .i64 x5)), (.v (.int .i64 7))])))
((idxL (x223.getD []) 0).bind fun x275 =>
((asStr? x275).bind fun x276 =>
((idxL (x223.getD []) 1).bind fun x277 =>
((asStr? x277).bind fun x278 =>
(chk (fits ((hM x244.2 1).length + 1))
((putE ⟨false, [.s]⟩ (.str x276) (T2.a (.v (.str x278))) (hM x244.2 1)).bind fun x279 =>
(some (.inl (0, [(.v (.sl x0)), (.v (.int .i64 x1)), (.v (.int .i64 (IntKind.wrap .i64 (x2 + 1)))), (.m (hM x244.2 0)), (.m x279)]))))))))))),
((idxL (x223.getD []) 0).bind fun x280 =>
((asStr? x280).bind fun x281 =>
((idxL (x223.getD []) 1).bind fun x282 =>
((asStr? x282).bind fun x283 =>
(chk (fits ((hM x244.2 1).length + 1))
((putE ⟨false, [.s]⟩ (.str x281) (T2.a (.v (.str x283))) (hM x244.2 1)).bind fun x284 =>
(some (.inl (0, [(.v (.sl x0)), (.v (.int .i64 x1)), (.v (.int .i64 (IntKind.wrap .i64 (x2 + 1)))), (.m (hM x244.2 0)), (.m x284)])))))))))]))))]))))))))))))))))))
(some (.inl (0, [(.v (.sl x0)), (.v (.int .i64 x1)), (.v (.int .i64 (IntKind.wrap .i64 (x2 + 1)))), (.m (hM v.2 3)), (.m (hM v.2 4))])))))
(cond (x8 == [116, 105, 109, 101, 115])
((pkey x6).bind fun x285 =>
(cond (!x285.2.2.2.2.2.2)
(some (.inr (0, [(.v (.int .i64 x5)), (.v (.int .i64 2))])))
((lookE ⟨true, [.s, .s, .s, .s, .s, .s]⟩ (.agg [(.str x285.1), (.str x285.2.1), (.str x285.2.2.1), (.str x285.2.2.2.1), (.str x285.2.2.2.2.1), (.str x285.2.2.2.2.2.1)]) (hM v.2 3)).bind fun x286 =>
((asStr? (x286.getD (.str []))).bind fun x287 =>
(cond (x286.isSome)
(some (.inr (0, [(.v (.int .i64 x5)), (.v (.int .i64 10))])))
((idxL (x6.getD []) (IntKind.wrap .i64 (((slLen x6 : Nat) : Int) - 1))).bind fun x288 =>
((asStr? x288).bind fun x289 =>
((rblank x289).bind fun x290 =>
(chk (fits ((hM v.2 3).length + 1))
((putE ⟨true, [.s, .s, .s, .s, .s, .s]⟩ (.agg [(.str x285.1), (.str x285.2.1), (.str x285.2.2.1), (.str x285.2.2.2.1), (.str x285.2.2.2.2.1), (.str x285.2.2.2.2.2.1)]) (T2.a (.v (.str x290))) (hM v.2 3)).bind fun x291 =>
(some (.inl (0, [(.v (.sl x0)), (.v (.int .i64 x1)), (.v (.int .i64 (IntKind.wrap .i64 (x2 + 1)))), (.m x291), (.m (hM v.2 4))])))))))))))))
(cond (x8 == [112, 97, 114, 101, 110, 116])
((cutSl 1 (some 1) none x6).bind fun x292 =>
(cond (((slLen x292 : Nat) : Int) != 2)
(some (.inr (0, [(.v (.int .i64 x5)), (.v (.int .i64 2))])))
((idxL (x292.getD []) 0).bind fun x293 =>
((asStr? x293).bind fun x294 =>
((plang x294).bind fun x295 =>
(cond (!x295)
(some (.inr (0, [(.v (.int .i64 x5)), (.v (.int .i64 2))])))
((idxL (x292.getD []) 1).bind fun x296 =>
((asStr? x296).bind fun x297 =>
((plang x297).bind fun x298 =>
(cond (!x298)
(some (.inr (0, [(.v (.int .i64 x5)), (.v (.int .i64 2))])))
((idxL (x292.getD []) 0).bind fun x299 =>
((asStr? x299).bind fun x300 =>
((lookE ⟨false, [.s]⟩ (.str x300) (hM v.2 4)).bind fun x301 =>
((asStr? (x301.getD (.str []))).bind fun x302 =>
(cond (!(x302 == []))
(some (.inr (0, [(.v (.int .i64 x5)), (.v (.int .i64 10))])))
((idxL (x292.getD []) 1).bind fun x303 =>
((asStr? x303).bind fun x304 =>
((loopK pload_L1 FU (0, [(.v (.str x304)), (.v (.bool true)), (.m (hM v.2 3)), (.m (hM v.2 4))])).bind fun x313 => sel x313.1 [((idxL (x292.getD []) 0).bind fun x314 =>
((asStr? x314).bind fun x315 =>
((loopK pload_L2 FU (0, [(.v (.sl (some [(.str [114, 111, 111, 116])]))), (.v (.str x315)), (.v (.int .i64 1)), (.v (.int .i64 0))])).bind fun x322 => sel x322.1 [((asInt? .i64 (hV x322.2 0)).bind fun x323 =>
(cond (decide (x323 ≥ 0))
(some (.inr (0, [(.v (.int .i64 x5)), (.v (.int .i64 7))])))
((idxL (x292.getD []) 0).bind fun x324 =>
((asStr? x324).bind fun x325 =>
((idxL (x292.getD []) 1).bind fun x326 =>
((asStr? x326).bind fun x327 =>
(chk (fits ((hM x313.2 1).length + 1))
((putE ⟨false, [.s]⟩ (.str x325) (T2.a (.v (.str x327))) (hM x313.2 1)).bind fun x328 =>
(some (.inl (0, [(.v (.sl x0)), (.v (.int .i64 x1)), (.v (.int .i64 (IntKind.wrap .i64 (x2 + 1)))), (.m (hM x313.2 0)), (.m x328)]))))))))))),
((idxL (x292.getD []) 0).bind fun x329 =>
((asStr? x329).bind fun x330 =>
((idxL (x292.getD []) 1).bind fun x331 =>
((asStr? x331).bind fun x332 =>
(chk (fits ((hM x313.2 1).length + 1))
((putE ⟨false, [.s]⟩ (.str x330) (T2.a (.v (.str x332))) (hM x313.2 1)).bind fun x333 =>
(some (.inl (0, [(.v (.sl x0)), (.v (.int .i64 x1)), (.v (.int .i64 (IntKind.wrap .i64 (x2 + 1)))), (.m (hM x313.2 0)), (.m x333)])))))))))]))),
(chk ((fits ((hL x313.2 2).length + 1)) && true)
((idxL (x292.getD []) 0).bind fun x334 =>
((asStr? x334).bind fun x335 =>
((loopK pload_L2 FU (0, [(.v (.sl (some ((hL x313.2 2) ++ [(.str [114, 111, 111, 116])] : List V)))), (.v (.str x335)), (.v (.int .i64 ((slLen (some ((hL x313.2 2) ++ [(.str [114, 111, 111, 116])] : List V)) : Nat) : Int))), (.v (.int .i64 0))])).bind fun x342 => sel x342.1 [((asInt? .i64 (hV x342.2 0)).bind fun x343 =>
(cond (decide (x343 ≥ 0))
(some (.inr (0, [(.v (.int .i64 x5)), (.v (.int .i64 7))])))
((idxL (x292.getD []) 0).bind fun x344 =>
((asStr? x344).bind fun x345 =>
((idxL (x292.getD []) 1).bind fun x346 =>
((asStr? x346).bind fun x347 =>
(chk (fits ((hM x313.2 1).length + 1))
((putE ⟨false, [.s]⟩ (.str x345) (T2.a (.v (.str x347))) (hM x313.2 1)).bind fun x348 =>
(some (.inl (0, [(.v (.sl x0)), (.v (.int .i64 x1)), (.v (.int .i64 (IntKind.wrap .i64 (x2 + 1)))), (.m (hM x313.2 0)), (.m x348)]))))))))))),
((idxL (x292.getD []) 0).bind fun x349 =>
((asStr? x349).bind fun x350 =>
((idxL (x292.getD []) 1).bind fun x351 =>
((asStr? x351).bind fun x352 =>
(chk (fits ((hM x313.2 1).length + 1))
((putE ⟨false, [.s]⟩ (.str x350) (T2.a (.v (.str x352))) (hM x313.2 1)).bind fun x353 =>
(some (.inl (0, [(.v (.sl x0)), (.v (.int .i64 x1)), (.v (.int .i64 (IntKind.wrap .i64 (x2 + 1)))), (.m (hM x313.2 0)), (.m x353)])))))))))]))))]))))))))))))))))))
(some (.inl (0, [(.v (.sl x0)), (.v (.int .i64 x1)), (.v (.int .i64 (IntKind.wrap .i64 (x2 + 1)))), (.m (hM v.2 3)), (.m (hM v.2 4))]))))))))))))))))
(some (.inr (1, [(.m (hM v.2 3)), (.m (hM v.2 4))])))))))]
noncomputable def pload (a0 : Option (List V)) : Option (Option (List V) × Int × Int) :=
((loopK pload_L0 FU (0, [(.v (.sl a0)), (.v (.int .i64 ((slLen a0 : Nat) : Int))), (.v (.int .i64 0)), (.m []), (.m [])])).bind fun x354 => sel x354.1 [((asInt? .i64 (hV x354.2 0)).bind fun x355 =>
((asInt? .i64 (hV x354.2 1)).bind fun x356 =>
(some (none, x355, x356)))),
((frzE (hM x354.2 0)).bind fun x357 =>
((frzE (hM x354.2 1)).bind fun x358 =>
(some ((some [(.mp (some x357)), (.mp (some x358))]), 0, 0))))])
noncomputable def pload_e : List SV → Objs → Option ((β : Type) → (SV → Objs → Option β) → Option β)
  | [.a (.v (.sl a0))], os => some fun _ K => (pload a0).bind fun p => K (.a (.v (.tup [(.pt p.1), (.int .i64 p.2.1), (.int .i64 p.2.2)]))) os
  | _, _ => none
noncomputable def pload_k (sv : SV) (os : Objs) : Option (Option (List V) × Int × Int) := match sv, os with
  | .a (.v v), [] => dTy (.tup [(.k .pt), (.k (.int .i64)), (.k (.int .i64))]) v fun v => (match v with | (.tup [(.pt r0), (.int .i64 r1), (.int .i64 r2)]) => some (r0, r1, r2) | _ => none)
  | _, _ => none
noncomputable def pload_n : FuncId → Nat → Ann := fun f n => match f, n with
  | 12, 0 => ⟨[(17, (.t1 (.agg [(.int .i64), .sl]))), (25, (.t1 (.k .str)))], [⟨[⟨[.u, .u, .u, .u, .u, .a (.loc 0 0), .u, .u, .u, .u, .u, .u, .u, .a (.h (.t1 (.k .sl))), .a (.h (.t1 (.k (.int .i64)))), .a (.h (.t1 (.k (.int .i64)))), .u, .u, .u, .u, .u, .u, .u, .u, .u, .u, .u, .u, .u, .u, .u, .u, .u, .u, .u, .u, .u, .u, .u, .u, .u, .u, .u, .u, .u, .u, .u, .u, .u, .u, .u], [.box 69 [.mapr 1, .mapr 2], .map, .map]⟩], [(.ret, ⟨[.u, .u, .a (.np), .a (.h (.t1 (.k (.int .i64)))), .a (.h (.t1 (.k (.int .i64)))), .u, .u, .u, .u, .u, .u, .u, .u, .u, .u, .u, .u, .u, .u, .u, .u, .u, .u, .u, .u, .u, .u, .u, .u, .u, .u, .u, .u, .u, .u, .u, .u, .u, .u, .u, .u, .u, .u, .u, .u, .u, .u, .u, .u, .u, .u], []⟩), ((.ex 0), ⟨[.u, .u, .u, .u, .u, .a (.loc 0 0), .u, .u, .u, .u, .u, .u, .u, .u, .u, .u, .u, .u, .u, .u, .u, .u, .u, .u, .u, .u, .u, .u, .u, .u, .u, .u, .u, .u, .u, .u, .u, .u, .u, .u, .u, .u, .u, .u, .u, .u, .u, .u, .u, .u, .u], [.box 69 [.mapr 1, .mapr 2], .map, .map]⟩)]⟩], true⟩
  | 23, 4 => ⟨[(22, (.tup [(.k .str), (.k .bool)])), (35, (.t1 (.k .str)))], [], false⟩
  | 24, 4 => ⟨[(11, (.t1 (.k .str))), (18, (.t1 (.k .str))), (29, (.t1 (.k .str))), (31, (.t1 (.k .str))), (36, (.t1 (.k .str))), (40, (.t1 (.k .str))), (48, (.t1 (.k .str))), (51, (.t1 (.k .str)))], [], false⟩
  | 27, 4 => ⟨[(18, (.tup [(.k .str), (.k .bool)]))], [⟨[⟨[.a (.loc 0 0), .a (.h (.t1 (.k .str))), .u, .u, .u, .a (.nil), .a (.h (.t1 (.k .bool))), .u, .u, .u, .u, .u, .u, .u, .u, .u, .u, .u, .u, .u, .u, .u, .u, .u, .u, .u, .u, .u], [.box 69 [.mapr 1, .mapr 2], .map, .map, .no]⟩, ⟨[.a (.loc 0 0), .a (.h (.t1 (.k .str))), .u, .u, .u, .a (.own 4), .a (.h (.t1 (.k .bool))), .u, .u, .u, .u, .u, .u, .u, .u, .u, .u, .u, .u, .u, .u, .u, .u, .u, .u, .u, .u, .u], [.box 69 [.mapr 1, .mapr 2], .map, .map, .no, .ext 9 1]⟩], [((.ex 0), ⟨[.u, .u, .u, .u, .u, .a (.nil), .u, .u, .u, .u, .u, .u, .u, .u, .u, .u, .u, .u, .u, .u, .u, .u, .u, .u, .u, .u, .u, .u], [.box 69 [.mapr 1, .mapr 2], .map, .map, .no]⟩), ((.ex 0), ⟨[.u, .u, .u, .u, .u, .a (.own 4), .u, .u, .u, .u, .u, .u, .u, .u, .u, .u, .u, .u, .u, .u, .u, .u, .u, .u, .u, .u, .u, .u], [.box 69 [.mapr 1, .mapr 2], .map, .map, .no, .ext 9 1]⟩)]⟩], false⟩
  | 88, 4 => ⟨[(14, (.t1 (.k .str)))], [⟨[⟨[.a (.h (.t1 (.k .sl))), .a (.h (.t1 (.k .str))), .u, .u, .u, .u, .u, .a (.h (.t1 (.k (.int .i64)))), .a (.h (.t1 (.k (.int .i64)))), .u, .u, .u, .u, .u, .u, .u, .u, .u, .u], [.no, .no, .no, .no]⟩], [(.ret, ⟨[.u, .u, .u, .u, .a (.h (.t1 (.k (.int .i64)))), .u, .u, .u, .u, .u, .u, .u, .u, .u, .u, .u, .u, .u, .u], [.no, .no, .no, .no]⟩), ((.ex 0), ⟨[.u, .u, .u, .u, .u, .u, .u, .u, .u, .u, .u, .u, .u, .u, .u, .u, .u, .u, .u], [.no, .no, .no, .no]⟩)]⟩], false⟩
  | _, _ => ⟨[], [], false⟩
theorem pload_q : (fun (a0 : Option (List V)) => stN tab0_27 code pload_n FU 24 12 [.a (.v (.sl a0))] [] pload_k) = (fun (a0 : Option (List V)) => pload a0) := by kernel_rfl
noncomputable def tab0_28 : ToldK := addTo tab0_27 12 pload_e
theorem pload_h : EntryOK tab0_27 code pload_n FU 24 12 pload_e := by
  intro args os t h
  unfold pload_e at h
  split at h
  · rename_i os0 a0
    cases h
    exact ⟨_, _, fun p => (.tup [(.pt p.1), (.int .i64 p.2.1), (.int .i64 p.2.2)]), pload_k, ids_all rfl, fun _ _ => rfl, (congrFun pload_q _), fun sv os p hp => by
      unfold pload_k at hp
      split at hp
      · have hp := dTy_ok hp
        split at hp
        · cases hp; exact ⟨rfl, rfl⟩
        · cases hp
      · cases hp⟩
  · cases h
/-! cubit/atom.Show -/
noncomputable def ashow (a0 : List UInt8) (a1 : List UInt8) (a2 : Int) : Option (List UInt8) :=
(chk (decide (((a0 : List UInt8).length + (a1 : List UInt8).length) ≤ maxStr))
(cond (decide (a2 < 1))
(some ([]))
(cond (decide (a2 > 15))
(some ([]))
(cond (a2 == 1)
(some ((a0 ++ a1)))
(cond (a2 == 2)
(chk (decide ((([115, 113, 117, 97, 114, 101, 45] : List UInt8).length + ((a0 ++ a1) : List UInt8).length) ≤ maxStr))
(some (([115, 113, 117, 97, 114, 101, 45] ++ (a0 ++ a1)))))
(cond (a2 == 3)
(chk (decide ((([99, 117, 98, 105, 99, 45] : List UInt8).length + ((a0 ++ a1) : List UInt8).length) ≤ maxStr))
(some (([99, 117, 98, 105, 99, 45] ++ (a0 ++ a1)))))
((itoa a2).bind fun x0 =>
(chk (decide ((([112, 111, 119] : List UInt8).length + (x0 : List UInt8).length) ≤ maxStr))
(chk (decide (((([112, 111, 119] ++ x0) : List UInt8).length + ([45] : List UInt8).length) ≤ maxStr))
(chk (decide ((((([112, 111, 119] ++ x0) ++ [45]) : List UInt8).length + ((a0 ++ a1) : List UInt8).length) ≤ maxStr))
(some (((([112, 111, 119] ++ x0) ++ [45]) ++ (a0 ++ a1))))))))))))))
noncomputable def ashow_e : List SV → Objs → Option ((β : Type) → (SV → Objs → Option β) → Option β)
  | [.a (.v (.agg [(.str a0), (.str a1), (.int .i64 a2)]))], os => some fun _ K => (ashow a0 a1 a2).bind fun p => K (.a (.v (.str p))) os
  | _, _ => none
noncomputable def ashow_k (sv : SV) (os : Objs) : Option (List UInt8) := match sv, os with
  | .a (.v v), [] => dTy (.t1 (.k .str)) v fun v => (match v with | (.str r0) => some (r0) | _ => none)
  | _, _ => none
noncomputable def ashow_n : FuncId → Nat → Ann := fun f n => match f, n with
  | _, _ => ⟨[], [], false⟩
theorem ashow_q : (fun (a0 : List UInt8) (a1 : List UInt8) (a2 : Int) => stN tab0_28 code ashow_n FU 24 11 [.a (.v (.agg [(.str a0), (.str a1), (.int .i64 a2)]))] [] ashow_k) = (fun (a0 : List UInt8) (a1 : List UInt8) (a2 : Int) => ashow a0 a1 a2) := by kernel_rfl
noncomputable def tab0_29 : ToldK := addTo tab0_28 11 ashow_e
theorem ashow_h : EntryOK tab0_28 code ashow_n FU 24 11 ashow_e := by
  intro args os t h
  unfold ashow_e at h
  split at h
  · rename_i os0 a0 a1 a2
    cases h
    exact ⟨_, _, fun p => (.str p), ashow_k, ids_all rfl, fun _ _ => rfl, (congrFun (congrFun (congrFun ashow_q _) _) _), fun sv os p hp => by
      unfold ashow_k at hp
      split at hp
      · have hp := dTy_ok hp
        split at hp
        · cases hp; exact ⟨rfl, rfl⟩
        · cases hp
      · cases hp⟩
  · cases h
/-! cubit/nat.trim -/
noncomputable def ntrim_L0 (v : Vs) : Option (Vs ⊕ Vs) := sel v.1 [((asSl? (hV v.2 0)).bind fun x0 =>
(cond (decide (((slLen x0 : Nat) : Int) > 0))
((idxL (x0.getD []) (IntKind.wrap .i64 (((slLen x0 : Nat) : Int) - 1))).bind fun x1 =>
((asInt? .u32 x1).bind fun x2 =>
(cond (x2 == 0)
((cutSl 1 none (some (IntKind.wrap .i64 (((slLen x0 : Nat) : Int) - 1))) x0).bind fun x3 =>
(some (.inl (0, [(.v (.sl x3))]))))
(some (.inr (0, [(.v (.sl x0))]))))))
(some (.inr (0, [(.v (.sl x0))])))))]
noncomputable def ntrim (a0 : Option (List V)) : Option (Option (List V)) :=
((loopK ntrim_L0 FU (0, [(.v (.sl a0))])).bind fun x4 => sel x4.1 [((asSl? (hV x4.2 0)).bind fun x5 =>
(some (x5)))])
noncomputable def ntrim_e : List SV → Objs → Option ((β : Type) → (SV → Objs → Option β) → Option β)
  | [.a (.v (.sl a0))], os => some fun _ K => (ntrim a0).bind fun p => K (.a (.v (.agg [(.sl p)]))) os
  | _, _ => none
noncomputable def ntrim_k (sv : SV) (os : Objs) : Option (Option (List V)) := match sv, os with
  | .a (.v v), [] => dTy (.t1 (.agg [.sl])) v fun v => (match v with | (.agg [(.sl r0)]) => some (r0) | _ => none)
  | _, _ => none
noncomputable def ntrim_n : FuncId → Nat → Ann := fun f n => match f, n with
  | 38, 0 => ⟨[(11, (.t1 (.k (.int .u32))))], [⟨[⟨[.a (.h (.t1 (.k .sl))), .u, .a (.loc 0 0), .u, .u, .u, .u, .u, .u, .u, .u, .u, .u, .u, .u, .u, .u, .u, .u, .u, .u, .u], [.box 51 [.nil]]⟩], [((.ex 0), ⟨[.a (.h (.t1 (.k .sl))), .u, .a (.loc 0 0), .u, .u, .u, .u, .u, .u, .u, .u, .u, .u, .u, .u, .u, .u, .u, .u, .u, .u, .u], [.box 51 [.nil]]⟩)]⟩], false⟩
  | _, _ => ⟨[], [], false⟩
theorem ntrim_q : (fun (a0 : Option (List V)) => stN tab0_29 code ntrim_n FU 24 38 [.a (.v (.sl a0))] [] ntrim_k) = (fun (a0 : Option (List V)) => ntrim a0) := by kernel_rfl
noncomputable def tab0_30 : ToldK := addTo tab0_29 38 ntrim_e
theorem ntrim_h : EntryOK tab0_29 code ntrim_n FU 24 38 ntrim_e := by
  intro args os t h
  unfold ntrim_e at h
  split at h
  · rename_i os0 a0
    cases h
    exact ⟨_, _, fun p => (.agg [(.sl p)]), ntrim_k, ids_all rfl, fun _ _ => rfl, (congrFun ntrim_q _), fun sv os p hp => by
      unfold ntrim_k at hp
      split at hp
      · have hp := dTy_ok hp
        split at hp
        · cases hp; exact ⟨rfl, rfl⟩
        · cases hp
      · cases hp⟩
  · cases h
/-! cubit/nat.Of -/
noncomputable def nof (a0 : Int) : Option (Option (List V)) :=
((ntrim (some [(.int .u32 (IntKind.wrap .u32 (a0))), (.int .u32 (IntKind.wrap .u32 ((Int.fdiv a0 (2 ^ (min (Int.toNat 32) (IntKind.bits .u64)))))))])).bind fun x0 =>
(some (x0)))
noncomputable def nof_e : List SV → Objs → Option ((β : Type) → (SV → Objs → Option β) → Option β)
  | [.a (.v (.int .u64 a0))], os => some fun _ K => (nof a0).bind fun p => K (.a (.v (.agg [(.sl p)]))) os
  | _, _ => none
noncomputable def nof_k (sv : SV) (os : Objs) : Option (Option (List V)) := match sv, os with
  | .a (.v v), [] => dTy (.t1 (.agg [.sl])) v fun v => (match v with | (.agg [(.sl r0)]) => some (r0) | _ => none)
  | _, _ => none
noncomputable def nof_n : FuncId → Nat → Ann := fun f n => match f, n with
  | _, _ => ⟨[], [], false⟩
theorem nof_q : (fun (a0 : Int) => stN tab0_30 code nof_n FU 24 16 [.a (.v (.int .u64 a0))] [] nof_k) = (fun (a0 : Int) => nof a0) := by kernel_rfl
noncomputable def tab0_31 : ToldK := addTo tab0_30 16 nof_e
theorem nof_h : EntryOK tab0_30 code nof_n FU 24 16 nof_e := by
  intro args os t h
  unfold nof_e at h
  split at h
  · rename_i os0 a0
    cases h
    exact ⟨_, _, fun p => (.agg [(.sl p)]), nof_k, ids_all rfl, fun _ _ => rfl, (congrFun nof_q _), fun sv os p hp => by
      unfold nof_k at hp
      split at hp
      · have hp := dTy_ok hp
        split at hp
        · cases hp; exact ⟨rfl, rfl⟩
        · cases hp
      · cases hp⟩
  · cases h
/-! cubit/nat.order -/
noncomputable def norder (a0 : Bool) : Option (Int) :=
(cond a0
(some ((-1)))
(some (1)))
noncomputable def norder_e : List SV → Objs → Option ((β : Type) → (SV → Objs → Option β) → Option β)
  | [.a (.v (.bool a0))], os => some fun _ K => (norder a0).bind fun p => K (.a (.v (.int .i64 p))) os
  | _, _ => none
noncomputable def norder_k (sv : SV) (os : Objs) : Option (Int) := match sv, os with
  | .a (.v v), [] => dTy (.t1 (.k (.int .i64))) v fun v => (match v with | (.int .i64 r0) => some (r0) | _ => none)
  | _, _ => none
noncomputable def norder_n : FuncId → Nat → Ann := fun f n => match f, n with
  | _, _ => ⟨[], [], false⟩
theorem norder_q : (fun (a0 : Bool) => stN tab0_31 code norder_n FU 24 63 [.a (.v (.bool a0))] [] norder_k) = (fun (a0 : Bool) => norder a0) := by kernel_rfl
noncomputable def tab0_32 : ToldK := addTo tab0_31 63 norder_e
theorem norder_h : EntryOK tab0_31 code norder_n FU 24 63 norder_e := by
  intro args os t h
  unfold norder_e at h
  split at h
  · rename_i os0 a0
    cases h
    exact ⟨_, _, fun p => (.int .i64 p), norder_k, ids_all rfl, fun _ _ => rfl, (congrFun norder_q _), fun sv os p hp => by
      unfold norder_k at hp
      split at hp
      · have hp := dTy_ok hp
        split at hp
        · cases hp; exact ⟨rfl, rfl⟩
        · cases hp
      · cases hp⟩
  · cases h
/-! cubit/nat.Cmp -/
noncomputable def ncmp_L0 (v : Vs) : Option (Vs ⊕ Vs) := sel v.1 [((asSl? (hV v.2 0)).bind fun x3 =>
((asSl? (hV v.2 1)).bind fun x4 =>
((asInt? .i64 (hV v.2 2)).bind fun x5 =>
(cond (decide (x5 ≥ 0))
((idxL (x3.getD []) x5).bind fun x6 =>
((asInt? .u32 x6).bind fun x7 =>
((idxL (x4.getD []) x5).bind fun x8 =>
((asInt? .u32 x8).bind fun x9 =>
(cond (x7 != x9)
((idxL (x3.getD []) x5).bind fun x10 =>
((asInt? .u32 x10).bind fun x11 =>
((idxL (x4.getD []) x5).bind fun x12 =>
((asInt? .u32 x12).bind fun x13 =>
((norder (decide (x11 < x13))).bind fun x14 =>
(some (.inr (0, [(.v (.int .i64 x14))]))))))))
(some (.inl (0, [(.v (.sl x3)), (.v (.sl x4)), (.v (.int .i64 (IntKind.wrap .i64 (x5 - 1))))]))))))))
(some (.inr (1, [])))))))]
noncomputable def ncmp (a0 : Option (List V)) (a1 : Option (List V)) : Option (Int) :=
((ntrim a0).bind fun x0 =>
((ntrim a1).bind fun x1 =>
(cond (((slLen x0 : Nat) : Int) != ((slLen x1 : Nat) : Int))
((norder (decide (((slLen x0 : Nat) : Int) < ((slLen x1 : Nat) : Int)))).bind fun x2 =>
(some (x2)))
((loopK ncmp_L0 FU (0, [(.v (.sl x0)), (.v (.sl x1)), (.v (.int .i64 (IntKind.wrap .i64 (((slLen x0 : Nat) : Int) - 1))))])).bind fun x15 => sel x15.1 [((asInt? .i64 (hV x15.2 0)).bind fun x16 =>
(some (x16))),
(some (0))]))))
noncomputable def ncmp_e : List SV → Objs → Option ((β : Type) → (SV → Objs → Option β) → Option β)
  | [.a (.v (.agg [(.sl a0)])), .a (.v (.agg [(.sl a1)]))], os => some fun _ K => (ncmp a0 a1).bind fun p => K (.a (.v (.int .i64 p))) os
  | _, _ => none
noncomputable def ncmp_k (sv : SV) (os : Objs) : Option (Int) := match sv, os with
  | .a (.v v), [] => dTy (.t1 (.k (.int .i64))) v fun v => (match v with | (.int .i64 r0) => some (r0) | _ => none)
  | _, _ => none
noncomputable def ncmp_n : FuncId → Nat → Ann := fun f n => match f, n with
  | 35, 0 => ⟨[(36, (.t1 (.k (.int .u32)))), (40, (.t1 (.k (.int .u32)))), (45, (.t1 (.k (.int .u32)))), (49, (.t1 (.k (.int .u32))))], [⟨[⟨[.u, .u, .u, .u, .u, .a (.h (.t1 (.k .sl))), .a (.h (.t1 (.k .sl))), .a (.h (.t1 (.k (.int .i64)))), .u, .u, .u, .u, .u, .u, .u, .u, .u, .u, .u, .u, .u, .u, .u, .u, .u, .u, .u, .u, .u, .u, .u, .u, .u, .u, .u, .u, .u, .u, .u, .u, .u, .u, .u, .u, .u, .u, .u, .u, .u, .u, .u, .u, .u], []⟩], [(.ret, ⟨[.u, .u, .u, .u, .a (.h (.t1 (.k (.int .i64)))), .u, .u, .u, .u, .u, .u, .u, .u, .u, .u, .u, .u, .u, .u, .u, .u, .u, .u, .u, .u, .u, .u, .u, .u, .u, .u, .u, .u, .u, .u, .u, .u, .u, .u, .u, .u, .u, .u, .u, .u, .u, .u, .u, .u, .u, .u, .u, .u], []⟩), ((.ex 0), ⟨[.u, .u, .u, .u, .u, .u, .u, .u, .u, .u, .u, .u, .u, .u, .u, .u, .u, .u, .u, .u, .u, .u, .u, .u, .u, .u, .u, .u, .u, .u, .u, .u, .u, .u, .u, .u, .u, .u, .u, .u, .u, .u, .u, .u, .u, .u, .u, .u, .u, .u, .u, .u, .u], []⟩)]⟩], false⟩
  | _, _ => ⟨[], [], false⟩
theorem ncmp_q : (fun (a0 : Option (List V)) (a1 : Option (List V)) => stN tab0_32 code ncmp_n FU 24 35 [.a (.v (.agg [(.sl a0)])), .a (.v (.agg [(.sl a1)]))] [] ncmp_k) = (fun (a0 : Option (List V)) (a1 : Option (List V)) => ncmp a0 a1) := by kernel_rfl
noncomputable def tab0_33 : ToldK := addTo tab0_32 35 ncmp_e
theorem ncmp_h : EntryOK tab0_32 code ncmp_n FU 24 35 ncmp_e := by
  intro args os t h
  unfold ncmp_e at h
  split at h
  · rename_i os0 a0 a1
    cases h
    exact ⟨_, _, fun p => (.int .i64 p), ncmp_k, ids_all rfl, fun _ _ => rfl, (congrFun (congrFun ncmp_q _) _), fun sv os p hp => by
      unfold ncmp_k at hp
      split at hp
      · have hp := dTy_ok hp
        split at hp
        · cases hp; exact ⟨rfl, rfl⟩
        · cases hp
      · cases hp⟩
  · cases h
/-! cubit/nat.small -/
noncomputable def nsmall_L0 (v : Vs) : Option (Vs ⊕ Vs) := sel v.1 [((asSl? (hV v.2 0)).bind fun x0 =>
((asInt? .u32 (hV v.2 1)).bind fun x1 =>
((asInt? .u64 (hV v.2 2)).bind fun x2 =>
((asInt? .i64 (hV v.2 3)).bind fun x3 =>
(cond (decide (x3 ≥ 0))
((idxL (x0.getD []) x3).bind fun x4 =>
((asInt? .u32 x4).bind fun x5 =>
(chk (decide ((IntKind.wrap .u64 (x1)) ≠ 0))
(chk (decide (0 ≤ x3) && decide (Int.toNat x3 < (hL v.2 4).length))
((idxL (hL v.2 4) (((Int.toNat x3) : Nat) : Int)).bind fun x6 =>
(chk (V.one x6)
(chk (decide ((IntKind.wrap .u64 (x1)) ≠ 0))
(some (.inl (0, [(.v (.sl x0)), (.v (.int .u32 x1)), (.v (.int .u64 (Int.tmod (IntKind.wrap .u64 ((((BitVec.ofInt (IntKind.bits .u64) (IntKind.wrap .u64 (x2 * 2 ^ (min (Int.toNat 32) (IntKind.bits .u64)))) ||| BitVec.ofInt (IntKind.bits .u64) (IntKind.wrap .u64 (x5))).toNat : Nat) : Int))) (IntKind.wrap .u64 (x1))))), (.v (.int .i64 (IntKind.wrap .i64 (x3 - 1)))), (.l ((hL v.2 4).set (Int.toNat x3) (.int .u32 (IntKind.wrap .u32 ((IntKind.wrap .u64 (Int.tdiv (IntKind.wrap .u64 ((((BitVec.ofInt (IntKind.bits .u64) (IntKind.wrap .u64 (x2 * 2 ^ (min (Int.toNat 32) (IntKind.bits .u64)))) ||| BitVec.ofInt (IntKind.bits .u64) (IntKind.wrap .u64 (x5))).toNat : Nat) : Int))) (IntKind.wrap .u64 (x1)))))))))]))))))))))
(some (.inr (0, [(.v (.int .u64 x2)), (.l (hL v.2 4))]))))))))]
noncomputable def nsmall (a0 : Option (List V)) (a1 : Int) : Option (Option (List V) × Int) :=
(chk (decide (0 ≤ ((slLen a0 : Nat) : Int)) && decide (((slLen a0 : Nat) : Int) ≤ ((slLen a0 : Nat) : Int)) && decide (((slLen a0 : Nat) : Int) ≤ lim))
((loopK nsmall_L0 FU (0, [(.v (.sl a0)), (.v (.int .u32 a1)), (.v (.int .u64 0)), (.v (.int .i64 (IntKind.wrap .i64 (((slLen a0 : Nat) : Int) - 1)))), (.l (List.replicate (Int.toNat ((slLen a0 : Nat) : Int)) (.int .u32 0)))])).bind fun x7 => sel x7.1 [((asInt? .u64 (hV x7.2 0)).bind fun x8 =>
(some ((some (hL x7.2 1)), (IntKind.wrap .u32 (x8)))))]))
noncomputable def nsmall_e : List SV → Objs → Option ((β : Type) → (SV → Objs → Option β) → Option β)
  | [.a (.v (.sl a0)), .a (.v (.int .u32 a1))], os => some fun _ K => (nsmall a0 a1).bind fun p => K (.a (.v (.tup [(.sl p.1), (.int .u32 p.2)]))) os
  | _, _ => none
noncomputable def nsmall_k (sv : SV) (os : Objs) : Option (Option (List V) × Int) := match sv, os with
  | .a (.v v), [] => dTy (.tup [(.k .sl), (.k (.int .u32))]) v fun v => (match v with | (.tup [(.sl r0), (.int .u32 r1)]) => some (r0, r1) | _ => none)
  | _, _ => none
noncomputable def nsmall_n : FuncId → Nat → Ann := fun f n => match f, n with
  | 64, 0 => ⟨[(23, (.t1 (.k (.int .u32)))), (34, (.t1 (.k (.int .u32))))], [⟨[⟨[.a (.h (.t1 (.k .sl))), .a (.h (.t1 (.k (.int .u32)))), .u, .u, .u, .u, .a (.own 0), .a (.h (.t1 (.k (.int .u64)))), .a (.h (.t1 (.k (.int .i64)))), .u, .u, .u, .u, .u, .u, .u, .u, .u, .u, .u, .u, .u, .u, .u, .u, .u, .u, .u, .u, .u, .u, .u, .u, .u, .u, .u, .u, .u, .u, .u, .u, .u], [.arr 85 1]⟩], [((.ex 0), ⟨[.u, .u, .u, .u, .u, .u, .a (.own 0), .a (.h (.t1 (.k (.int .u64)))), .u, .u, .u, .u, .u, .u, .u, .u, .u, .u, .u, .u, .u, .u, .u, .u, .u, .u, .u, .u, .u, .u, .u, .u, .u, .u, .u, .u, .u, .u, .u, .u, .u, .u], [.arr 85 1]⟩)]⟩], false⟩
  | _, _ => ⟨[], [], false⟩
theorem nsmall_q : (fun (a0 : Option (List V)) (a1 : Int) => stN tab0_33 code nsmall_n FU 24 64 [.a (.v (.sl a0)), .a (.v (.int .u32 a1))] [] nsmall_k) = (fun (a0 : Option (List V)) (a1 : Int) => nsmall a0 a1) := by kernel_rfl
noncomputable def tab0_34 : ToldK := addTo tab0_33 64 nsmall_e
theorem nsmall_h : EntryOK tab0_33 code nsmall_n FU 24 64 nsmall_e := by
  intro args os t h
  unfold nsmall_e at h
  split at h
  · rename_i os0 a0 a1
    cases h
    exact ⟨_, _, fun p => (.tup [(.sl p.1), (.int .u32 p.2)]), nsmall_k, ids_all rfl, fun _ _ => rfl, (congrFun (congrFun nsmall_q _) _), fun sv os p hp => by
      unfold nsmall_k at hp
      split at hp
      · have hp := dTy_ok hp
        split at hp
        · cases hp; exact ⟨rfl, rfl⟩
        · cases hp
      · cases hp⟩
  · cases h
/-! cubit/nat.Text -/
noncomputable def ntext_L0 (v : Vs) : Option (Vs ⊕ Vs) := sel v.1 [((asSl? (hV v.2 0)).bind fun x1 =>
(cond (decide (((slLen x1 : Nat) : Int) > 0))
((nsmall x1 1000000000).bind fun x2 =>
((ntrim x2.1).bind fun x3 =>
((itoa (IntKind.wrap .i64 (x2.2))).bind fun x4 =>
(cond (decide (((slLen x3 : Nat) : Int) > 0))
((sRepeat [48] (IntKind.wrap .i64 (9 - (((x4 : List UInt8).length : Nat) : Int)))).bind fun x5 =>
(chk (decide (((x5 : List UInt8).length + (x4 : List UInt8).length) ≤ maxStr))
(some (.inl (1, [(.v (.sl x3)), (.l [(.str (x5 ++ x4))])])))))
(some (.inl (1, [(.v (.sl x3)), (.l [(.str x4)])])))))))
(some (.inr (0, []))))),
((asSl? (hV v.2 0)).bind fun x6 =>
(cond (decide (((slLen x6 : Nat) : Int) > 0))
((nsmall x6 1000000000).bind fun x7 =>
((ntrim x7.1).bind fun x8 =>
((itoa (IntKind.wrap .i64 (x7.2))).bind fun x9 =>
(cond (decide (((slLen x8 : Nat) : Int) > 0))
((sRepeat [48] (IntKind.wrap .i64 (9 - (((x9 : List UInt8).length : Nat) : Int)))).bind fun x10 =>
(chk (decide (((x10 : List UInt8).length + (x9 : List UInt8).length) ≤ maxStr))
(chk ((fits ((hL v.2 1).length + 1)) && true)
(some (.inl (1, [(.v (.sl x8)), (.l ((hL v.2 1) ++ [(.str (x10 ++ x9))] : List V))]))))))
(chk ((fits ((hL v.2 1).length + 1)) && true)
(some (.inl (1, [(.v (.sl x8)), (.l ((hL v.2 1) ++ [(.str x9)] : List V))]))))))))
(some (.inr (1, [(.l (hL v.2 1))])))))]
noncomputable def ntext_L1 (v : Vs) : Option (Vs ⊕ Vs) := sel v.1 [((asInt? .i64 (hV v.2 0)).bind fun x12 =>
((asInt? .i64 (hV v.2 1)).bind fun x13 =>
(cond (decide (x12 < x13))
((idxL ([] : List V) x13).bind fun x14 =>
((asStr? x14).bind fun x15 =>
((idxL ([] : List V) x12).bind fun x16 =>
((asStr? x16).bind fun x17 =>
((idxL ([] : List V) x12).bind fun x18 =>
((asStr? x18).bind fun x19 =>
none))))))
(some (.inr (0, []))))))]
noncomputable def ntext_L2 (v : Vs) : Option (Vs ⊕ Vs) := sel v.1 [((asInt? .i64 (hV v.2 0)).bind fun x22 =>
((asInt? .i64 (hV v.2 1)).bind fun x23 =>
(cond (decide (x22 < x23))
(chk (decide (0 ≤ x23) && decide (Int.toNat x23 < (hL v.2 2).length))
((idxL (hL v.2 2) (((Int.toNat x23) : Nat) : Int)).bind fun x24 =>
((asStr? x24).bind fun x25 =>
(chk (decide (0 ≤ x22) && decide (Int.toNat x22 < (hL v.2 2).length))
((idxL (hL v.2 2) (((Int.toNat x22) : Nat) : Int)).bind fun x26 =>
((asStr? x26).bind fun x27 =>
(chk (decide (0 ≤ x22) && decide (Int.toNat x22 < (hL v.2 2).length))
((idxL (hL v.2 2) (((Int.toNat x22) : Nat) : Int)).bind fun x28 =>
(chk (V.one x28)
(chk (decide (0 ≤ x23) && decide (Int.toNat x23 < ((hL v.2 2).set (Int.toNat x22) (.str x25)).length))
((idxL ((hL v.2 2).set (Int.toNat x22) (.str x25)) (((Int.toNat x23) : Nat) : Int)).bind fun x29 =>
(chk (V.one x29)
(some (.inl (0, [(.v (.int .i64 (IntKind.wrap .i64 (x22 + 1)))), (.v (.int .i64 (IntKind.wrap .i64 (x23 - 1)))), (.l (((hL v.2 2).set (Int.toNat x22) (.str x25)).set (Int.toNat x23) (.str x27)))])))))))))))))))
(some (.inr (0, [(.l (hL v.2 2))]))))))]
noncomputable def ntext_L3 (v : Vs) : Option (Vs ⊕ Vs) := sel v.1 [((asStr? (hV v.2 0)).bind fun x33 =>
((asInt? .i64 (hV v.2 1)).bind fun x34 =>
((asInt? .i64 (hV v.2 2)).bind fun x35 =>
((asInt? .i64 (hV v.2 3)).bind fun x36 =>
(cond (decide (x36 < x35))
(chk (decide (0 ≤ x36) && decide (Int.toNat x36 < (hL v.2 4).length))
((idxL (hL v.2 4) (((Int.toNat x36) : Nat) : Int)).bind fun x37 =>
((asStr? x37).bind fun x38 =>
(cond (decide ((((x38 : List UInt8).length : Nat) : Int) > (IntKind.wrap .i64 (9223372036854775807 - x34))))
none
(some (.inl (0, [(.v (.str x33)), (.v (.int .i64 (IntKind.wrap .i64 (x34 + (((x38 : List UInt8).length : Nat) : Int))))), (.v (.int .i64 x35)), (.v (.int .i64 (IntKind.wrap .i64 (x36 + 1)))), (.l (hL v.2 4))])))))))
(some (.inr (0, [(.v (.str x33)), (.v (.int .i64 x34)), (.l (hL v.2 4))]))))))))]
noncomputable def ntext (a0 : Option (List V)) : Option (List UInt8) :=
((ntrim a0).bind fun x0 =>
(cond (((slLen x0 : Nat) : Int) == 0)
(some ([48]))
((loopK ntext_L0 FU (0, [(.v (.sl x0))])).bind fun x11 => sel x11.1 [((loopK ntext_L1 FU (0, [(.v (.int .i64 0)), (.v (.int .i64 (-1)))])).bind fun x20 => sel x20.1 [((sJoin none []).bind fun x21 =>
(some (x21)))]),
((loopK ntext_L2 FU (0, [(.v (.int .i64 0)), (.v (.int .i64 (IntKind.wrap .i64 ((((hL x11.2 0).length : Nat) : Int) - 1)))), (.l (hL x11.2 0))])).bind fun x30 => sel x30.1 [(cond ((((hL x30.2 0).length : Nat) : Int) == 0)
(some ([]))
(cond ((((hL x30.2 0).length : Nat) : Int) == 1)
(chk (decide (0 ≤ 0) && decide (Int.toNat 0 < (hL x30.2 0).length))
((idxL (hL x30.2 0) (((Int.toNat 0) : Nat) : Int)).bind fun x31 =>
((asStr? x31).bind fun x32 =>
(some (x32)))))
((loopK ntext_L3 FU (0, [(.v (.str [])), (.v (.int .i64 0)), (.v (.int .i64 (((hL x30.2 0).length : Nat) : Int))), (.v (.int .i64 0)), (.l (hL x30.2 0))])).bind fun x39 => sel x39.1 [((asStr? (hV x39.2 0)).bind fun x40 =>
((asInt? .i64 (hV x39.2 1)).bind fun x41 =>
(cond (decide (x41 < 0))
none
none)))])))])])))
noncomputable def ntext_e : List SV → Objs → Option ((β : Type) → (SV → Objs → Option β) → Option β)
  | [.a (.v (.agg [(.sl a0)]))], os => some fun _ K => (ntext a0).bind fun p => K (.a (.v (.str p))) os
  | _, _ => none
noncomputable def ntext_k (sv : SV) (os : Objs) : Option (List UInt8) := match sv, os with
  | .a (.v v), [] => dTy (.t1 (.k .str)) v fun v => (match v with | (.str r0) => some (r0) | _ => none)
  | _, _ => none
noncomputable def ntext_n : FuncId → Nat → Ann := fun f n => match f, n with
  | 66, 0 => ⟨[(20, (.t1 (.k .str))), (24, (.t1 (.k .str))), (26, (.t1 (.k .str)))], [⟨[⟨[.a (.nil), .u, .a (.h (.t1 (.k (.int .i64)))), .a (.h (.t1 (.k (.int .i64)))), .u, .u, .u, .u, .u, .u, .u, .u, .u, .u, .u, .u, .u, .u, .u, .u, .u, .u, .u, .u, .u, .u, .u, .u], []⟩], [((.ex 0), ⟨[.u, .u, .u, .u, .u, .u, .u, .u, .u, .u, .u, .u, .u, .u, .u, .u, .u, .u, .u, .u, .u, .u, .u, .u, .u, .u, .u, .u], []⟩)]⟩], false⟩
  | 66, 1 => ⟨[(21, (.t1 (.k .str))), (25, (.t1 (.k .str))), (26, (.t1 (.k .str))), (27, (.t1 (.k .str)))], [⟨[⟨[.a (.own 0), .u, .a (.h (.t1 (.k (.int .i64)))), .a (.h (.t1 (.k (.int .i64)))), .u, .u, .u, .u, .u, .u, .u, .u, .u, .u, .u, .u, .u, .u, .u, .u, .u, .u, .u, .u, .u, .u, .u, .u], [.arr 9 1]⟩], [((.ex 0), ⟨[.u, .u, .u, .u, .u, .u, .u, .u, .u, .u, .u, .u, .u, .u, .u, .u, .u, .u, .u, .u, .u, .u, .u, .u, .u, .u, .u, .u], [.arr 9 1]⟩)]⟩], false⟩
  | 62, 1 => ⟨[(19, (.t1 (.k .str))), (44, (.t1 (.k .str)))], [⟨[⟨[.a (.own 0), .a (.h (.t1 (.k .str))), .u, .u, .u, .a (.h (.t1 (.k (.int .i64)))), .u, .u, .u, .u, .u, .u, .u, .u, .u, .u, .u, .u, .u, .u, .u, .u, .u, .u, .u, .u, .u, .u, .u, .u, .u, .u, .u, .u, .u, .u, .u, .u, .u, .a (.own 0), .a (.h (.t1 (.k (.int .i64)))), .a (.h (.t1 (.k (.int .i64)))), .u, .u, .u, .u, .u, .u, .u, .u, .u, .u, .u, .u, .u, .u, .u, .u, .u, .u, .u, .u, .u, .u, .u, .u, .u, .u, .u, .u, .u, .u, .u, .u, .u], [.arr 9 1]⟩], [((.ex 1), ⟨[.a (.own 0), .a (.h (.t1 (.k .str))), .u, .u, .u, .a (.h (.t1 (.k (.int .i64)))), .u, .u, .u, .u, .u, .u, .u, .u, .u, .u, .u, .u, .u, .u, .u, .u, .u, .u, .u, .u, .u, .u, .u, .u, .u, .u, .u, .u, .u, .u, .u, .u, .u, .u, .u, .u, .u, .u, .u, .u, .u, .u, .u, .u, .u, .u, .u, .u, .u, .u, .u, .u, .u, .u, .u, .u, .u, .u, .u, .u, .u, .u, .u, .u, .u, .u, .u, .u, .u], [.arr 9 1]⟩)]⟩], false⟩
  | 36, 0 => ⟨[], [⟨[⟨[.u, .u, .u, .a (.h (.t1 (.k .sl))), .a (.nil), .u, .u, .u, .u, .u, .u, .u, .u, .u, .u, .u, .u, .u, .u, .u, .u, .u, .u, .u, .u, .u, .u, .u, .u, .u, .u, .u, .u, .u, .u, .u, .u, .u, .u, .u, .u, .u, .u, .u, .u, .u], []⟩, ⟨[.u, .u, .u, .a (.h (.t1 (.k .sl))), .a (.own 0), .u, .u, .u, .u, .u, .u, .u, .u, .u, .u, .u, .u, .u, .u, .u, .u, .u, .u, .u, .u, .u, .u, .u, .u, .u, .u, .u, .u, .u, .u, .u, .u, .u, .u, .u, .u, .u, .u, .u, .u, .u], [.arr 9 1]⟩], [((.ex 0), ⟨[.u, .u, .u, .u, .a (.nil), .u, .u, .u, .u, .u, .u, .u, .u, .u, .u, .u, .u, .u, .u, .u, .u, .u, .u, .u, .u, .u, .u, .u, .u, .u, .u, .u, .u, .u, .u, .u, .u, .u, .u, .u, .u, .u, .u, .u, .u, .u], []⟩), ((.ex 0), ⟨[.u, .u, .u, .u, .a (.own 0), .u, .u, .u, .u, .u, .u, .u, .u, .u, .u, .u, .u, .u, .u, .u, .u, .u, .u, .u, .u, .u, .u, .u, .u, .u, .u, .u, .u, .u, .u, .u, .u, .u, .u, .u, .u, .u, .u, .u, .u, .u], [.arr 9 1]⟩)]⟩], false⟩
  | _, _ => ⟨[], [], false⟩
theorem ntext_q : (fun (a0 : Option (List V)) => stN tab0_34 code ntext_n FU 24 36 [.a (.v (.agg [(.sl a0)]))] [] ntext_k) = (fun (a0 : Option (List V)) => ntext a0) := by kernel_rfl
noncomputable def tab0_35 : ToldK := addTo tab0_34 36 ntext_e
theorem ntext_h : EntryOK tab0_34 code ntext_n FU 24 36 ntext_e := by
  intro args os t h
  unfold ntext_e at h
  split at h
  · rename_i os0 a0
    cases h
    exact ⟨_, _, fun p => (.str p), ntext_k, ids_all rfl, fun _ _ => rfl, (congrFun ntext_q _), fun sv os p hp => by
      unfold ntext_k at hp
      split at hp
      · have hp := dTy_ok hp
        split at hp
        · cases hp; exact ⟨rfl, rfl⟩
        · cases hp
      · cases hp⟩
  · cases h
/-! cubit/unit.one -/
noncomputable def uone  : Option (Option (List V)) :=
((nof 1).bind fun x0 =>
(some (x0)))
noncomputable def uone_e : List SV → Objs → Option ((β : Type) → (SV → Objs → Option β) → Option β)
  | [], os => some fun _ K => (uone).bind fun p => K (.a (.v (.agg [(.sl p)]))) os
  | _, _ => none
noncomputable def uone_k (sv : SV) (os : Objs) : Option (Option (List V)) := match sv, os with
  | .a (.v v), [] => dTy (.t1 (.agg [.sl])) v fun v => (match v with | (.agg [(.sl r0)]) => some (r0) | _ => none)
  | _, _ => none
noncomputable def uone_n : FuncId → Nat → Ann := fun f n => match f, n with
  | _, _ => ⟨[], [], false⟩
theorem uone_q : (stN tab0_35 code uone_n FU 24 61 [] [] uone_k) = (uone) := by kernel_rfl
noncomputable def tab0_36 : ToldK := addTo tab0_35 61 uone_e
theorem uone_h : EntryOK tab0_35 code uone_n FU 24 61 uone_e := by
  intro args os t h
  unfold uone_e at h
  split at h
  · rename_i os0 
    cases h
    exact ⟨_, _, fun p => (.agg [(.sl p)]), uone_k, ids_all rfl, fun _ _ => rfl, uone_q, fun sv os p hp => by
      unfold uone_k at hp
      split at hp
      · have hp := dTy_ok hp
        split at hp
        · cases hp; exact ⟨rfl, rfl⟩
        · cases hp
      · cases hp⟩
  · cases h
/-! cubit/unit.ShowPart -/
noncomputable def ushow_L0 (v : Vs) : Option (Vs ⊕ Vs) := sel v.1 [((asSl? (hV v.2 0)).bind fun x0 =>
((asInt? .i64 (hV v.2 1)).bind fun x1 =>
((asInt? .i64 (hV v.2 2)).bind fun x2 =>
((asSl? (hV v.2 3)).bind fun x3 =>
((asSl? (hV v.2 4)).bind fun x4 =>
((asSl? (hV v.2 5)).bind fun x5 =>
(cond (decide (x2 < x1))
((idxL (x0.getD []) x2).bind fun x6 =>
((asAgg? 3 x6).bind fun x7 =>
((asStr? (x7.getD 0 .nilp)).bind fun x8 =>
((asStr? (x7.getD 1 .nilp)).bind fun x9 =>
((asInt? .i64 (x7.getD 2 .nilp)).bind fun x10 =>
((ashow x8 x9 x10).bind fun x11 =>
(some (.inl (1, [(.v (.sl x0)), (.v (.int .i64 x1)), (.v (.int .i64 (IntKind.wrap .i64 (x2 + 1)))), (.v (.sl x3)), (.v (.sl x4)), (.v (.sl x5)), (.l [(.str x11)])])))))))))
(some (.inr (0, [(.v (.sl x3)), (.v (.sl x4)), (.v (.sl x5))])))))))))),
((asSl? (hV v.2 0)).bind fun x12 =>
((asInt? .i64 (hV v.2 1)).bind fun x13 =>
((asInt? .i64 (hV v.2 2)).bind fun x14 =>
((asSl? (hV v.2 3)).bind fun x15 =>
((asSl? (hV v.2 4)).bind fun x16 =>
((asSl? (hV v.2 5)).bind fun x17 =>
(cond (decide (x14 < x13))
((idxL (x12.getD []) x14).bind fun x18 =>
((asAgg? 3 x18).bind fun x19 =>
((asStr? (x19.getD 0 .nilp)).bind fun x20 =>
((asStr? (x19.getD 1 .nilp)).bind fun x21 =>
((asInt? .i64 (x19.getD 2 .nilp)).bind fun x22 =>
((ashow x20 x21 x22).bind fun x23 =>
(chk ((fits ((hL v.2 6).length + 1)) && true)
(some (.inl (1, [(.v (.sl x12)), (.v (.int .i64 x13)), (.v (.int .i64 (IntKind.wrap .i64 (x14 + 1)))), (.v (.sl x15)), (.v (.sl x16)), (.v (.sl x17)), (.l ((hL v.2 6) ++ [(.str x23)] : List V))]))))))))))
(some (.inr (1, [(.v (.sl x15)), (.v (.sl x16)), (.v (.sl x17)), (.l (hL v.2 6))]))))))))))]
noncomputable def ushow_L1 (v : Vs) : Option (Vs ⊕ Vs) := sel v.1 [((asSl? (hV v.2 0)).bind fun x31 =>
((asInt? .i64 (hV v.2 1)).bind fun x32 =>
((asInt? .i64 (hV v.2 2)).bind fun x33 =>
(cond (decide (x33 < x32))
((idxL (x31.getD []) x33).bind fun x34 =>
((asAgg? 3 x34).bind fun x35 =>
((asStr? (x35.getD 0 .nilp)).bind fun x36 =>
((asStr? (x35.getD 1 .nilp)).bind fun x37 =>
((asInt? .i64 (x35.getD 2 .nilp)).bind fun x38 =>
((ashow x36 x37 x38).bind fun x39 =>
(some (.inl (1, [(.v (.sl x31)), (.v (.int .i64 x32)), (.v (.int .i64 (IntKind.wrap .i64 (x33 + 1)))), (.l [(.str x39)])])))))))))
(some (.inr (0, []))))))),
((asSl? (hV v.2 0)).bind fun x40 =>
((asInt? .i64 (hV v.2 1)).bind fun x41 =>
((asInt? .i64 (hV v.2 2)).bind fun x42 =>
(cond (decide (x42 < x41))
((idxL (x40.getD []) x42).bind fun x43 =>
((asAgg? 3 x43).bind fun x44 =>
((asStr? (x44.getD 0 .nilp)).bind fun x45 =>
((asStr? (x44.getD 1 .nilp)).bind fun x46 =>
((asInt? .i64 (x44.getD 2 .nilp)).bind fun x47 =>
((ashow x45 x46 x47).bind fun x48 =>
(chk ((fits ((hL v.2 3).length + 1)) && true)
(some (.inl (1, [(.v (.sl x40)), (.v (.int .i64 x41)), (.v (.int .i64 (IntKind.wrap .i64 (x42 + 1)))), (.l ((hL v.2 3) ++ [(.str x48)] : List V))]))))))))))
(some (.inr (1, [(.l (hL v.2 3))])))))))]
noncomputable def ushow (a0 : Option (List V)) (a1 : Option (List V)) (a2 : Option (List V)) : Option (List UInt8) :=
((loopK ushow_L0 FU (0, [(.v (.sl a0)), (.v (.int .i64 ((slLen a0 : Nat) : Int))), (.v (.int .i64 0)), (.v (.sl a0)), (.v (.sl a1)), (.v (.sl a2))])).bind fun x24 => sel x24.1 [((asSl? (hV x24.2 0)).bind fun x25 =>
((asSl? (hV x24.2 1)).bind fun x26 =>
((asSl? (hV x24.2 2)).bind fun x27 =>
((uone ).bind fun x28 =>
((ncmp x27 x28).bind fun x29 =>
(cond (x29 != 0)
(cond (x29 != 0)
((ntext x27).bind fun x30 =>
((loopK ushow_L1 FU (1, [(.v (.sl x26)), (.v (.int .i64 ((slLen x26 : Nat) : Int))), (.v (.int .i64 0)), (.l [(.str [112, 101, 114]), (.str x30)])])).bind fun x49 => sel x49.1 [((sJoin none [45]).bind fun x50 =>
(some (x50))),
((sJoin (some (hL x49.2 0)) [45]).bind fun x51 =>
(some (x51)))]))
((loopK ushow_L1 FU (1, [(.v (.sl x26)), (.v (.int .i64 ((slLen x26 : Nat) : Int))), (.v (.int .i64 0)), (.l [(.str [112, 101, 114])])])).bind fun x70 => sel x70.1 [((sJoin none [45]).bind fun x71 =>
(some (x71))),
((sJoin (some (hL x70.2 0)) [45]).bind fun x72 =>
(some (x72)))]))
(cond (decide (((slLen x26 : Nat) : Int) > 0))
(cond (x29 != 0)
((ntext x27).bind fun x73 =>
((loopK ushow_L1 FU (1, [(.v (.sl x26)), (.v (.int .i64 ((slLen x26 : Nat) : Int))), (.v (.int .i64 0)), (.l [(.str [112, 101, 114]), (.str x73)])])).bind fun x92 => sel x92.1 [((sJoin none [45]).bind fun x93 =>
(some (x93))),
((sJoin (some (hL x92.2 0)) [45]).bind fun x94 =>
(some (x94)))]))
((loopK ushow_L1 FU (1, [(.v (.sl x26)), (.v (.int .i64 ((slLen x26 : Nat) : Int))), (.v (.int .i64 0)), (.l [(.str [112, 101, 114])])])).bind fun x113 => sel x113.1 [((sJoin none [45]).bind fun x114 =>
(some (x114))),
((sJoin (some (hL x113.2 0)) [45]).bind fun x115 =>
(some (x115)))]))
(cond (x29 != 0)
((ntext x27).bind fun x116 =>
((loopK ushow_L1 FU (1, [(.v (.sl x26)), (.v (.int .i64 ((slLen x26 : Nat) : Int))), (.v (.int .i64 0)), (.l [(.str x116)])])).bind fun x135 => sel x135.1 [((sJoin none [45]).bind fun x136 =>
(some (x136))),
((sJoin (some (hL x135.2 0)) [45]).bind fun x137 =>
(some (x137)))]))
((loopK ushow_L1 FU (0, [(.v (.sl x26)), (.v (.int .i64 ((slLen x26 : Nat) : Int))), (.v (.int .i64 0))])).bind fun x156 => sel x156.1 [((sJoin none [45]).bind fun x157 =>
(some (x157))),
((sJoin (some (hL x156.2 0)) [45]).bind fun x158 =>
(some (x158)))]))))))))),
((asSl? (hV x24.2 0)).bind fun x159 =>
((asSl? (hV x24.2 1)).bind fun x160 =>
((asSl? (hV x24.2 2)).bind fun x161 =>
((uone ).bind fun x162 =>
((ncmp x161 x162).bind fun x163 =>
(cond (x163 != 0)
(chk ((fits ((hL x24.2 3).length + 1)) && true)
(cond (x163 != 0)
((ntext x161).bind fun x164 =>
(chk ((fits (((hL x24.2 3) ++ [(.str [112, 101, 114])] : List V).length + 1)) && true)
((loopK ushow_L1 FU (1, [(.v (.sl x160)), (.v (.int .i64 ((slLen x160 : Nat) : Int))), (.v (.int .i64 0)), (.l (((hL x24.2 3) ++ [(.str [112, 101, 114])] : List V) ++ [(.str x164)] : List V))])).bind fun x183 => sel x183.1 [((sJoin none [45]).bind fun x184 =>
(some (x184))),
((sJoin (some (hL x183.2 0)) [45]).bind fun x185 =>
(some (x185)))])))
((loopK ushow_L1 FU (1, [(.v (.sl x160)), (.v (.int .i64 ((slLen x160 : Nat) : Int))), (.v (.int .i64 0)), (.l ((hL x24.2 3) ++ [(.str [112, 101, 114])] : List V))])).bind fun x204 => sel x204.1 [((sJoin none [45]).bind fun x205 =>
(some (x205))),
((sJoin (some (hL x204.2 0)) [45]).bind fun x206 =>
(some (x206)))])))
(cond (decide (((slLen x160 : Nat) : Int) > 0))
(chk ((fits ((hL x24.2 3).length + 1)) && true)
(cond (x163 != 0)
((ntext x161).bind fun x207 =>
(chk ((fits (((hL x24.2 3) ++ [(.str [112, 101, 114])] : List V).length + 1)) && true)
((loopK ushow_L1 FU (1, [(.v (.sl x160)), (.v (.int .i64 ((slLen x160 : Nat) : Int))), (.v (.int .i64 0)), (.l (((hL x24.2 3) ++ [(.str [112, 101, 114])] : List V) ++ [(.str x207)] : List V))])).bind fun x226 => sel x226.1 [((sJoin none [45]).bind fun x227 =>
(some (x227))),
((sJoin (some (hL x226.2 0)) [45]).bind fun x228 =>
(some (x228)))])))
((loopK ushow_L1 FU (1, [(.v (.sl x160)), (.v (.int .i64 ((slLen x160 : Nat) : Int))), (.v (.int .i64 0)), (.l ((hL x24.2 3) ++ [(.str [112, 101, 114])] : List V))])).bind fun x247 => sel x247.1 [((sJoin none [45]).bind fun x248 =>
(some (x248))),
((sJoin (some (hL x247.2 0)) [45]).bind fun x249 =>
(some (x249)))])))
(cond (x163 != 0)
((ntext x161).bind fun x250 =>
(chk ((fits ((hL x24.2 3).length + 1)) && true)
((loopK ushow_L1 FU (1, [(.v (.sl x160)), (.v (.int .i64 ((slLen x160 : Nat) : Int))), (.v (.int .i64 0)), (.l ((hL x24.2 3) ++ [(.str x250)] : List V))])).bind fun x269 => sel x269.1 [((sJoin none [45]).bind fun x270 =>
(some (x270))),
((sJoin (some (hL x269.2 0)) [45]).bind fun x271 =>
(some (x271)))])))
((loopK ushow_L1 FU (1, [(.v (.sl x160)), (.v (.int .i64 ((slLen x160 : Nat) : Int))), (.v (.int .i64 0)), (.l (hL x24.2 3))])).bind fun x290 => sel x290.1 [((sJoin none [45]).bind fun x291 =>
(some (x291))),
((sJoin (some (hL x290.2 0)) [45]).bind fun x292 =>
(some (x292)))])))))))))])
noncomputable def ushow_e : List SV → Objs → Option ((β : Type) → (SV → Objs → Option β) → Option β)
  | [.a (.v (.agg [(.sl a0), (.sl a1), (.sl a2)]))], os => some fun _ K => (ushow a0 a1 a2).bind fun p => K (.a (.v (.str p))) os
  | _, _ => none
noncomputable def ushow_k (sv : SV) (os : Objs) : Option (List UInt8) := match sv, os with
  | .a (.v v), [] => dTy (.t1 (.k .str)) v fun v => (match v with | (.str r0) => some (r0) | _ => none)
  | _, _ => none
noncomputable def ushow_n : FuncId → Nat → Ann := fun f n => match f, n with
  | 31, 0 => ⟨[(14, (.t1 (.agg [.str, .str, (.int .i64)]))), (49, (.t1 (.agg [.str, .str, (.int .i64)])))], [⟨[⟨[.u, .a (.loc 0 0), .u, .a (.nil), .u, .u, .u, .u, .u, .u, .a (.h (.t1 (.k .sl))), .a (.h (.t1 (.k (.int .i64)))), .a (.h (.t1 (.k (.int .i64)))), .u, .u, .u, .u, .u, .u, .u, .u, .u, .u, .u, .u, .u, .u, .u, .u, .u, .u, .u, .u, .u, .u, .u, .u, .u, .u, .u, .u, .u, .u, .u, .u, .u, .u, .u, .u, .u, .u, .u, .u, .u, .u, .u, .u, .u, .u], [.box 54 [.h (.t1 (.k .sl)), .h (.t1 (.k .sl)), .h (.t1 (.k .sl))]]⟩, ⟨[.u, .a (.loc 0 0), .u, .a (.own 1), .u, .u, .u, .u, .u, .u, .a (.h (.t1 (.k .sl))), .a (.h (.t1 (.k (.int .i64)))), .a (.h (.t1 (.k (.int .i64)))), .u, .u, .u, .u, .u, .u, .u, .u, .u, .u, .u, .u, .u, .u, .u, .u, .u, .u, .u, .u, .u, .u, .u, .u, .u, .u, .u, .u, .u, .u, .u, .u, .u, .u, .u, .u, .u, .u, .u, .u, .u, .u, .u, .u, .u, .u], [.box 54 [.h (.t1 (.k .sl)), .h (.t1 (.k .sl)), .h (.t1 (.k .sl))], .ext 9 1]⟩], [((.ex 0), ⟨[.u, .a (.loc 0 0), .u, .a (.nil), .u, .u, .u, .u, .u, .u, .u, .u, .u, .u, .u, .u, .u, .u, .u, .u, .u, .u, .u, .u, .u, .u, .u, .u, .u, .u, .u, .u, .u, .u, .u, .u, .u, .u, .u, .u, .u, .u, .u, .u, .u, .u, .u, .u, .u, .u, .u, .u, .u, .u, .u, .u, .u, .u, .u], [.box 54 [.h (.t1 (.k .sl)), .h (.t1 (.k .sl)), .h (.t1 (.k .sl))]]⟩), ((.ex 0), ⟨[.u, .a (.loc 0 0), .u, .a (.own 1), .u, .u, .u, .u, .u, .u, .u, .u, .u, .u, .u, .u, .u, .u, .u, .u, .u, .u, .u, .u, .u, .u, .u, .u, .u, .u, .u, .u, .u, .u, .u, .u, .u, .u, .u, .u, .u, .u, .u, .u, .u, .u, .u, .u, .u, .u, .u, .u, .u, .u, .u, .u, .u, .u, .u], [.box 54 [.h (.t1 (.k .sl)), .h (.t1 (.k .sl)), .h (.t1 (.k .sl))], .ext 9 1]⟩)]⟩, ⟨[⟨[.u, .u, .u, .a (.nil), .u, .u, .u, .u, .u, .u, .u, .u, .u, .u, .u, .u, .u, .u, .u, .u, .u, .u, .u, .u, .u, .u, .u, .u, .u, .u, .u, .u, .u, .u, .u, .u, .u, .u, .u, .u, .u, .u, .u, .u, .u, .a (.h (.t1 (.k .sl))), .a (.h (.t1 (.k (.int .i64)))), .a (.h (.t1 (.k (.int .i64)))), .u, .u, .u, .u, .u, .u, .u, .u, .u, .u, .u], []⟩, ⟨[.u, .u, .u, .a (.own 0), .u, .u, .u, .u, .u, .u, .u, .u, .u, .u, .u, .u, .u, .u, .u, .u, .u, .u, .u, .u, .u, .u, .u, .u, .u, .u, .u, .u, .u, .u, .u, .u, .u, .u, .u, .u, .u, .u, .u, .u, .u, .a (.h (.t1 (.k .sl))), .a (.h (.t1 (.k (.int .i64)))), .a (.h (.t1 (.k (.int .i64)))), .u, .u, .u, .u, .u, .u, .u, .u, .u, .u, .u], [.ext 9 1]⟩], [((.ex 2), ⟨[.u, .u, .u, .a (.nil), .u, .u, .u, .u, .u, .u, .u, .u, .u, .u, .u, .u, .u, .u, .u, .u, .u, .u, .u, .u, .u, .u, .u, .u, .u, .u, .u, .u, .u, .u, .u, .u, .u, .u, .u, .u, .u, .u, .u, .u, .u, .u, .u, .u, .u, .u, .u, .u, .u, .u, .u, .u, .u, .u, .u], []⟩), ((.ex 2), ⟨[.u, .u, .u, .a (.own 0), .u, .u, .u, .u, .u, .u, .u, .u, .u, .u, .u, .u, .u, .u, .u, .u, .u, .u, .u, .u, .u, .u, .u, .u, .u, .u, .u, .u, .u, .u, .u, .u, .u, .u, .u, .u, .u, .u, .u, .u, .u, .u, .u, .u, .u, .u, .u, .u, .u, .u, .u, .u, .u, .u, .u], [.ext 9 1]⟩)]⟩], false⟩
  | _, _ => ⟨[], [], false⟩
theorem ushow_q : (fun (a0 : Option (List V)) (a1 : Option (List V)) (a2 : Option (List V)) => stN tab0_36 code ushow_n FU 24 31 [.a (.v (.agg [(.sl a0), (.sl a1), (.sl a2)]))] [] ushow_k) = (fun (a0 : Option (List V)) (a1 : Option (List V)) (a2 : Option (List V)) => ushow a0 a1 a2) := by kernel_rfl
noncomputable def tab0_37 : ToldK := addTo tab0_36 31 ushow_e
theorem ushow_h : EntryOK tab0_36 code ushow_n FU 24 31 ushow_e := by
  intro args os t h
  unfold ushow_e at h
  split at h
  · rename_i os0 a0 a1 a2
    cases h
    exact ⟨_, _, fun p => (.str p), ushow_k, ids_all rfl, fun _ _ => rfl, (congrFun (congrFun (congrFun ushow_q _) _) _), fun sv os p hp => by
      unfold ushow_k at hp
      split at hp
      · have hp := dTy_ok hp
        split at hp
        · cases hp; exact ⟨rfl, rfl⟩
        · cases hp
      · cases hp⟩
  · cases h
/-! (cubit/compose.How).word -/
noncomputable def hword (a0 : List UInt8) (a1 : List UInt8) (a2 : List UInt8) (a3 : List UInt8) (a4 : Option (List V)) (a5 : List UInt8) : Option (List UInt8 × Bool) :=
((pfind a4 [119, 111, 114, 100] a0 a1 a5 a2 a3).bind fun x0 =>
(some (x0.1, x0.2)))
noncomputable def hword_e : List SV → Objs → Option ((β : Type) → (SV → Objs → Option β) → Option β)
  | [.a (.v (.agg [(.str a0), (.str a1), (.str a2), (.str a3)])), .a (.v (.pt a4)), .a (.v (.str a5))], os => some fun _ K => (hword a0 a1 a2 a3 a4 a5).bind fun p => K (.a (.v (.tup [(.str p.1), (.bool p.2)]))) os
  | _, _ => none
noncomputable def hword_k (sv : SV) (os : Objs) : Option (List UInt8 × Bool) := match sv, os with
  | .a (.v v), [] => dTy (.tup [(.k .str), (.k .bool)]) v fun v => (match v with | (.tup [(.str r0), (.bool r1)]) => some (r0, r1) | _ => none)
  | _, _ => none
noncomputable def hword_n : FuncId → Nat → Ann := fun f n => match f, n with
  | _, _ => ⟨[], [], false⟩
theorem hword_q : (fun (a0 : List UInt8) (a1 : List UInt8) (a2 : List UInt8) (a3 : List UInt8) (a4 : Option (List V)) (a5 : List UInt8) => stN tab0_37 code hword_n FU 24 30 [.a (.v (.agg [(.str a0), (.str a1), (.str a2), (.str a3)])), .a (.v (.pt a4)), .a (.v (.str a5))] [] hword_k) = (fun (a0 : List UInt8) (a1 : List UInt8) (a2 : List UInt8) (a3 : List UInt8) (a4 : Option (List V)) (a5 : List UInt8) => hword a0 a1 a2 a3 a4 a5) := by kernel_rfl
noncomputable def tab0_38 : ToldK := addTo tab0_37 30 hword_e
theorem hword_h : EntryOK tab0_37 code hword_n FU 24 30 hword_e := by
  intro args os t h
  unfold hword_e at h
  split at h
  · rename_i os0 a0 a1 a2 a3 a4 a5
    cases h
    exact ⟨_, _, fun p => (.tup [(.str p.1), (.bool p.2)]), hword_k, ids_all rfl, fun _ _ => rfl, (congrFun (congrFun (congrFun (congrFun (congrFun (congrFun hword_q _) _) _) _) _) _), fun sv os p hp => by
      unfold hword_k at hp
      split at hp
      · have hp := dTy_ok hp
        split at hp
        · cases hp; exact ⟨rfl, rfl⟩
        · cases hp
      · cases hp⟩
  · cases h
/-! (cubit/compose.How).fill -/
noncomputable def hfill (a0 : List UInt8) (a1 : List UInt8) (a2 : List UInt8) (a3 : List UInt8) (a4 : Option (List V)) (a5 : List UInt8) (a6 : List UInt8) (a7 : List UInt8) (a8 : Option (List V)) : Option (List UInt8 × Int) :=
((pfind a4 a5 a0 a1 a6 a7 []).bind fun x0 =>
(cond (!x0.2)
(some ([], 9))
((pfill x0.1 a8).bind fun x1 =>
(some (x1, 0)))))
noncomputable def hfill_e : List SV → Objs → Option ((β : Type) → (SV → Objs → Option β) → Option β)
  | [.a (.v (.agg [(.str a0), (.str a1), (.str a2), (.str a3)])), .a (.v (.pt a4)), .a (.v (.str a5)), .a (.v (.str a6)), .a (.v (.str a7)), .a (.v (.sl a8))], os => some fun _ K => (hfill a0 a1 a2 a3 a4 a5 a6 a7 a8).bind fun p => K (.a (.v (.tup [(.str p.1), (.int .i64 p.2)]))) os
  | _, _ => none
noncomputable def hfill_k (sv : SV) (os : Objs) : Option (List UInt8 × Int) := match sv, os with
  | .a (.v v), [] => dTy (.tup [(.k .str), (.k (.int .i64))]) v fun v => (match v with | (.tup [(.str r0), (.int .i64 r1)]) => some (r0, r1) | _ => none)
  | _, _ => none
noncomputable def hfill_n : FuncId → Nat → Ann := fun f n => match f, n with
  | _, _ => ⟨[], [], false⟩
theorem hfill_q : (fun (a0 : List UInt8) (a1 : List UInt8) (a2 : List UInt8) (a3 : List UInt8) (a4 : Option (List V)) (a5 : List UInt8) (a6 : List UInt8) (a7 : List UInt8) (a8 : Option (List V)) => stN tab0_38 code hfill_n FU 24 37 [.a (.v (.agg [(.str a0), (.str a1), (.str a2), (.str a3)])), .a (.v (.pt a4)), .a (.v (.str a5)), .a (.v (.str a6)), .a (.v (.str a7)), .a (.v (.sl a8))] [] hfill_k) = (fun (a0 : List UInt8) (a1 : List UInt8) (a2 : List UInt8) (a3 : List UInt8) (a4 : Option (List V)) (a5 : List UInt8) (a6 : List UInt8) (a7 : List UInt8) (a8 : Option (List V)) => hfill a0 a1 a2 a3 a4 a5 a6 a7 a8) := by kernel_rfl
noncomputable def tab0_39 : ToldK := addTo tab0_38 37 hfill_e
theorem hfill_h : EntryOK tab0_38 code hfill_n FU 24 37 hfill_e := by
  intro args os t h
  unfold hfill_e at h
  split at h
  · rename_i os0 a0 a1 a2 a3 a4 a5 a6 a7 a8
    cases h
    exact ⟨_, _, fun p => (.tup [(.str p.1), (.int .i64 p.2)]), hfill_k, ids_all rfl, fun _ _ => rfl, (congrFun (congrFun (congrFun (congrFun (congrFun (congrFun (congrFun (congrFun (congrFun hfill_q _) _) _) _) _) _) _) _) _), fun sv os p hp => by
      unfold hfill_k at hp
      split at hp
      · have hp := dTy_ok hp
        split at hp
        · cases hp; exact ⟨rfl, rfl⟩
        · cases hp
      · cases hp⟩
  · cases h
/-! (cubit/compose.How).one -/
noncomputable def hone (a0 : List UInt8) (a1 : List UInt8) (a2 : List UInt8) (a3 : List UInt8) : Option (List UInt8 × List UInt8 × List UInt8 × List UInt8) :=
(some (a0, a1, [111, 110, 101], []))
noncomputable def hone_e : List SV → Objs → Option ((β : Type) → (SV → Objs → Option β) → Option β)
  | [.a (.v (.agg [(.str a0), (.str a1), (.str a2), (.str a3)]))], os => some fun _ K => (hone a0 a1 a2 a3).bind fun p => K (.a (.v (.agg [(.str p.1), (.str p.2.1), (.str p.2.2.1), (.str p.2.2.2)]))) os
  | _, _ => none
noncomputable def hone_k (sv : SV) (os : Objs) : Option (List UInt8 × List UInt8 × List UInt8 × List UInt8) := match sv, os with
  | .a (.v v), [] => dTy (.t1 (.agg [.str, .str, .str, .str])) v fun v => (match v with | (.agg [(.str r0), (.str r1), (.str r2), (.str r3)]) => some (r0, r1, r2, r3) | _ => none)
  | _, _ => none
noncomputable def hone_n : FuncId → Nat → Ann := fun f n => match f, n with
  | _, _ => ⟨[], [], false⟩
theorem hone_q : (fun (a0 : List UInt8) (a1 : List UInt8) (a2 : List UInt8) (a3 : List UInt8) => stN tab0_39 code hone_n FU 24 34 [.a (.v (.agg [(.str a0), (.str a1), (.str a2), (.str a3)]))] [] hone_k) = (fun (a0 : List UInt8) (a1 : List UInt8) (a2 : List UInt8) (a3 : List UInt8) => hone a0 a1 a2 a3) := by kernel_rfl
noncomputable def tab0_40 : ToldK := addTo tab0_39 34 hone_e
theorem hone_h : EntryOK tab0_39 code hone_n FU 24 34 hone_e := by
  intro args os t h
  unfold hone_e at h
  split at h
  · rename_i os0 a0 a1 a2 a3
    cases h
    exact ⟨_, _, fun p => (.agg [(.str p.1), (.str p.2.1), (.str p.2.2.1), (.str p.2.2.2)]), hone_k, ids_all rfl, fun _ _ => rfl, (congrFun (congrFun (congrFun (congrFun hone_q _) _) _) _), fun sv os p hp => by
      unfold hone_k at hp
      split at hp
      · have hp := dTy_ok hp
        split at hp
        · cases hp; exact ⟨rfl, rfl⟩
        · cases hp
      · cases hp⟩
  · cases h
/-! cubit/compose.Atom -/
noncomputable def catom (a0 : Option (List V)) (a1 : Option (List V)) (a2 : List UInt8) (a3 : List UInt8) (a4 : List UInt8) (a5 : List UInt8) (a6 : List UInt8) (a7 : List UInt8) (a8 : Int) : Option (List UInt8 × Int) :=
((ashow a6 a7 a8).bind fun x0 =>
((hword a2 a3 a4 a5 a0 x0).bind fun x1 =>
(cond x1.2
((cname x1.1).bind fun x2 =>
(some (x2, 0)))
((hword a2 a3 a4 a5 a0 a7).bind fun x3 =>
(cond (!x3.2)
(some ([], 9))
((cname x3.1).bind fun x4 =>
(cond (!(a6 == []))
((hfill a2 a3 a4 a5 a0 [112, 114, 101, 102, 105, 120, 101, 100] a6 [] (some [(.str x4)])).bind fun x5 =>
(cond (x5.2 != 0)
(some ([], x5.2))
(cond (decide (a8 > 1))
((itoa a8).bind fun x6 =>
((gatom a1 a2 a6 a7 a8).bind fun x7 =>
((hfill a2 a3 a4 a5 a0 [112, 111, 119, 101, 114] x6 x7 (some [(.str x5.1)])).bind fun x8 =>
(cond (x8.2 != 0)
(some ([], x8.2))
(some (x8.1, 0))))))
(some (x5.1, 0)))))
(cond (decide (a8 > 1))
((itoa a8).bind fun x9 =>
((gatom a1 a2 a6 a7 a8).bind fun x10 =>
((hfill a2 a3 a4 a5 a0 [112, 111, 119, 101, 114] x9 x10 (some [(.str x4)])).bind fun x11 =>
(cond (x11.2 != 0)
(some ([], x11.2))
(some (x11.1, 0))))))
(some (x4, 0))))))))))
noncomputable def catom_e : List SV → Objs → Option ((β : Type) → (SV → Objs → Option β) → Option β)
  | [.a (.v (.pt a0)), .a (.v (.pt a1)), .a (.v (.agg [(.str a2), (.str a3), (.str a4), (.str a5)])), .a (.v (.agg [(.str a6), (.str a7), (.int .i64 a8)]))], os => some fun _ K => (catom a0 a1 a2 a3 a4 a5 a6 a7 a8).bind fun p => K (.a (.v (.tup [(.str p.1), (.int .i64 p.2)]))) os
  | _, _ => none
noncomputable def catom_k (sv : SV) (os : Objs) : Option (List UInt8 × Int) := match sv, os with
  | .a (.v v), [] => dTy (.tup [(.k .str), (.k (.int .i64))]) v fun v => (match v with | (.tup [(.str r0), (.int .i64 r1)]) => some (r0, r1) | _ => none)
  | _, _ => none
noncomputable def catom_n : FuncId → Nat → Ann := fun f n => match f, n with
  | _, _ => ⟨[], [], false⟩
theorem catom_q : (fun (a0 : Option (List V)) (a1 : Option (List V)) (a2 : List UInt8) (a3 : List UInt8) (a4 : List UInt8) (a5 : List UInt8) (a6 : List UInt8) (a7 : List UInt8) (a8 : Int) => stN tab0_40 code catom_n FU 24 17 [.a (.v (.pt a0)), .a (.v (.pt a1)), .a (.v (.agg [(.str a2), (.str a3), (.str a4), (.str a5)])), .a (.v (.agg [(.str a6), (.str a7), (.int .i64 a8)]))] [] catom_k) = (fun (a0 : Option (List V)) (a1 : Option (List V)) (a2 : List UInt8) (a3 : List UInt8) (a4 : List UInt8) (a5 : List UInt8) (a6 : List UInt8) (a7 : List UInt8) (a8 : Int) => catom a0 a1 a2 a3 a4 a5 a6 a7 a8) := by kernel_rfl
noncomputable def tab0_41 : ToldK := addTo tab0_40 17 catom_e
theorem catom_h : EntryOK tab0_40 code catom_n FU 24 17 catom_e := by
  intro args os t h
  unfold catom_e at h
  split at h
  · rename_i os0 a0 a1 a2 a3 a4 a5 a6 a7 a8
    cases h
    exact ⟨_, _, fun p => (.tup [(.str p.1), (.int .i64 p.2)]), catom_k, ids_all rfl, fun _ _ => rfl, (congrFun (congrFun (congrFun (congrFun (congrFun (congrFun (congrFun (congrFun (congrFun catom_q _) _) _) _) _) _) _) _) _), fun sv os p hp => by
      unfold catom_k at hp
      split at hp
      · have hp := dTy_ok hp
        split at hp
        · cases hp; exact ⟨rfl, rfl⟩
        · cases hp
      · cases hp⟩
  · cases h
/-! cubit/compose.Row -/
noncomputable def crow_L0 (v : Vs) : Option (Vs ⊕ Vs) := sel v.1 [((asPt? (hV v.2 0)).bind fun x0 =>
((asPt? (hV v.2 1)).bind fun x1 =>
((asSl? (hV v.2 2)).bind fun x2 =>
((asStr? (hV v.2 3)).bind fun x3 =>
((asSl? (hV v.2 4)).bind fun x4 =>
((asInt? .i64 (hV v.2 5)).bind fun x5 =>
((asInt? .i64 (hV v.2 6)).bind fun x6 =>
((asStr? (hV v.2 7)).bind fun x7 =>
((asStr? (hV v.2 8)).bind fun x8 =>
((asStr? (hV v.2 9)).bind fun x9 =>
((asStr? (hV v.2 10)).bind fun x10 =>
(cond (decide (x6 < x5))
((idxL (x4.getD []) x6).bind fun x11 =>
((asAgg? 3 x11).bind fun x12 =>
((asStr? (x12.getD 0 .nilp)).bind fun x13 =>
((asStr? (x12.getD 1 .nilp)).bind fun x14 =>
((asInt? .i64 (x12.getD 2 .nilp)).bind fun x15 =>
((hone x7 x8 x9 x10).bind fun x16 =>
(cond (x6 == (IntKind.wrap .i64 (((slLen x2 : Nat) : Int) - 1)))
((catom x0 x1 x7 x8 x9 x10 x13 x14 x15).bind fun x17 =>
(cond (x17.2 == 0)
(cond (decide (x6 > 0))
((hfill x7 x8 x9 x10 x0 [116, 105, 109, 101, 115] [] [] (some [(.str x3), (.str x17.1)])).bind fun x18 =>
(cond (x18.2 != 0)
(some (.inr (0, [(.v (.str [])), (.v (.int .i64 x18.2))])))
(some (.inl (0, [(.v (.pt x0)), (.v (.pt x1)), (.v (.sl x2)), (.v (.str x18.1)), (.v (.sl x4)), (.v (.int .i64 x5)), (.v (.int .i64 (IntKind.wrap .i64 (x6 + 1)))), (.v (.str x7)), (.v (.str x8)), (.v (.str x9)), (.v (.str x10))])))))
(cond (x17.2 != 0)
(some (.inr (0, [(.v (.str [])), (.v (.int .i64 x17.2))])))
(some (.inl (0, [(.v (.pt x0)), (.v (.pt x1)), (.v (.sl x2)), (.v (.str x17.1)), (.v (.sl x4)), (.v (.int .i64 x5)), (.v (.int .i64 (IntKind.wrap .i64 (x6 + 1)))), (.v (.str x7)), (.v (.str x8)), (.v (.str x9)), (.v (.str x10))])))))
(cond (x17.2 != 0)
(some (.inr (0, [(.v (.str [])), (.v (.int .i64 x17.2))])))
(some (.inl (0, [(.v (.pt x0)), (.v (.pt x1)), (.v (.sl x2)), (.v (.str x17.1)), (.v (.sl x4)), (.v (.int .i64 x5)), (.v (.int .i64 (IntKind.wrap .i64 (x6 + 1)))), (.v (.str x7)), (.v (.str x8)), (.v (.str x9)), (.v (.str x10))]))))))
((catom x0 x1 x16.1 x16.2.1 x16.2.2.1 x16.2.2.2 x13 x14 x15).bind fun x19 =>
(cond (x19.2 == 0)
(cond (decide (x6 > 0))
((hfill x7 x8 x9 x10 x0 [116, 105, 109, 101, 115] [] [] (some [(.str x3), (.str x19.1)])).bind fun x20 =>
(cond (x20.2 != 0)
(some (.inr (0, [(.v (.str [])), (.v (.int .i64 x20.2))])))
(some (.inl (0, [(.v (.pt x0)), (.v (.pt x1)), (.v (.sl x2)), (.v (.str x20.1)), (.v (.sl x4)), (.v (.int .i64 x5)), (.v (.int .i64 (IntKind.wrap .i64 (x6 + 1)))), (.v (.str x7)), (.v (.str x8)), (.v (.str x9)), (.v (.str x10))])))))
(cond (x19.2 != 0)
(some (.inr (0, [(.v (.str [])), (.v (.int .i64 x19.2))])))
(some (.inl (0, [(.v (.pt x0)), (.v (.pt x1)), (.v (.sl x2)), (.v (.str x19.1)), (.v (.sl x4)), (.v (.int .i64 x5)), (.v (.int .i64 (IntKind.wrap .i64 (x6 + 1)))), (.v (.str x7)), (.v (.str x8)), (.v (.str x9)), (.v (.str x10))])))))
(cond (x19.2 != 0)
(some (.inr (0, [(.v (.str [])), (.v (.int .i64 x19.2))])))
(some (.inl (0, [(.v (.pt x0)), (.v (.pt x1)), (.v (.sl x2)), (.v (.str x19.1)), (.v (.sl x4)), (.v (.int .i64 x5)), (.v (.int .i64 (IntKind.wrap .i64 (x6 + 1)))), (.v (.str x7)), (.v (.str x8)), (.v (.str x9)), (.v (.str x10))])))))))))))))
(some (.inr (1, [(.v (.str x3))])))))))))))))))]
noncomputable def crow (a0 : Option (List V)) (a1 : Option (List V)) (a2 : List UInt8) (a3 : List UInt8) (a4 : List UInt8) (a5 : List UInt8) (a6 : Option (List V)) : Option (List UInt8 × Int) :=
((loopK crow_L0 FU (0, [(.v (.pt a0)), (.v (.pt a1)), (.v (.sl a6)), (.v (.str [])), (.v (.sl a6)), (.v (.int .i64 ((slLen a6 : Nat) : Int))), (.v (.int .i64 0)), (.v (.str a2)), (.v (.str a3)), (.v (.str a4)), (.v (.str a5))])).bind fun x21 => sel x21.1 [((asStr? (hV x21.2 0)).bind fun x22 =>
((asInt? .i64 (hV x21.2 1)).bind fun x23 =>
(some (x22, x23)))),
((asStr? (hV x21.2 0)).bind fun x24 =>
(some (x24, 0)))])
noncomputable def crow_e : List SV → Objs → Option ((β : Type) → (SV → Objs → Option β) → Option β)
  | [.a (.v (.pt a0)), .a (.v (.pt a1)), .a (.v (.agg [(.str a2), (.str a3), (.str a4), (.str a5)])), .a (.v (.sl a6))], os => some fun _ K => (crow a0 a1 a2 a3 a4 a5 a6).bind fun p => K (.a (.v (.tup [(.str p.1), (.int .i64 p.2)]))) os
  | _, _ => none
noncomputable def crow_k (sv : SV) (os : Objs) : Option (List UInt8 × Int) := match sv, os with
  | .a (.v v), [] => dTy (.tup [(.k .str), (.k (.int .i64))]) v fun v => (match v with | (.tup [(.str r0), (.int .i64 r1)]) => some (r0, r1) | _ => none)
  | _, _ => none
noncomputable def crow_n : FuncId → Nat → Ann := fun f n => match f, n with
  | 33, 0 => ⟨[(21, (.t1 (.agg [.str, .str, (.int .i64)])))], [⟨[⟨[.a (.h (.t1 (.k .pt))), .a (.h (.t1 (.k .pt))), .u, .a (.h (.t1 (.k .sl))), .u, .u, .a (.loc 0 0), .u, .u, .u, .a (.h (.t1 (.k .str))), .u, .u, .u, .u, .u, .a (.h (.t1 (.k .sl))), .a (.h (.t1 (.k (.int .i64)))), .a (.h (.t1 (.k (.int .i64)))), .u, .u, .u, .u, .u, .u, .u, .u, .u, .u, .u, .u, .u, .u, .u, .u, .u, .u, .u, .u, .u, .u, .u, .u, .u, .u, .u, .u, .u, .u, .u, .u, .u, .u, .u, .u, .u, .u, .u, .u, .u], [.box 33 [.h (.t1 (.k .str)), .h (.t1 (.k .str)), .h (.t1 (.k .str)), .h (.t1 (.k .str))]]⟩], [(.ret, ⟨[.u, .u, .u, .u, .u, .u, .u, .u, .a (.h (.t1 (.k .str))), .a (.h (.t1 (.k (.int .i64)))), .u, .u, .u, .u, .u, .u, .u, .u, .u, .u, .u, .u, .u, .u, .u, .u, .u, .u, .u, .u, .u, .u, .u, .u, .u, .u, .u, .u, .u, .u, .u, .u, .u, .u, .u, .u, .u, .u, .u, .u, .u, .u, .u, .u, .u, .u, .u, .u, .u, .u], []⟩), ((.ex 0), ⟨[.u, .u, .u, .u, .u, .u, .u, .u, .u, .u, .a (.h (.t1 (.k .str))), .u, .u, .u, .u, .u, .u, .u, .u, .u, .u, .u, .u, .u, .u, .u, .u, .u, .u, .u, .u, .u, .u, .u, .u, .u, .u, .u, .u, .u, .u, .u, .u, .u, .u, .u, .u, .u, .u, .u, .u, .u, .u, .u, .u, .u, .u, .u, .u, .u], []⟩)]⟩], false⟩
  | _, _ => ⟨[], [], false⟩
theorem crow_q : (fun (a0 : Option (List V)) (a1 : Option (List V)) (a2 : List UInt8) (a3 : List UInt8) (a4 : List UInt8) (a5 : List UInt8) (a6 : Option (List V)) => stN tab0_41 code crow_n FU 24 33 [.a (.v (.pt a0)), .a (.v (.pt a1)), .a (.v (.agg [(.str a2), (.str a3), (.str a4), (.str a5)])), .a (.v (.sl a6))] [] crow_k) = (fun (a0 : Option (List V)) (a1 : Option (List V)) (a2 : List UInt8) (a3 : List UInt8) (a4 : List UInt8) (a5 : List UInt8) (a6 : Option (List V)) => crow a0 a1 a2 a3 a4 a5 a6) := by kernel_rfl
noncomputable def tab0_42 : ToldK := addTo tab0_41 33 crow_e
theorem crow_h : EntryOK tab0_41 code crow_n FU 24 33 crow_e := by
  intro args os t h
  unfold crow_e at h
  split at h
  · rename_i os0 a0 a1 a2 a3 a4 a5 a6
    cases h
    exact ⟨_, _, fun p => (.tup [(.str p.1), (.int .i64 p.2)]), crow_k, ids_all rfl, fun _ _ => rfl, (congrFun (congrFun (congrFun (congrFun (congrFun (congrFun (congrFun crow_q _) _) _) _) _) _) _), fun sv os p hp => by
      unfold crow_k at hp
      split at hp
      · have hp := dTy_ok hp
        split at hp
        · cases hp; exact ⟨rfl, rfl⟩
        · cases hp
      · cases hp⟩
  · cases h
/-! cubit/compose.Part -/
noncomputable def cpart_L0 (v : Vs) : Option (Vs ⊕ Vs) := sel v.1 [((asStr? (hV v.2 0)).bind fun x10 =>
((asInt? .u8 (hV v.2 1)).bind fun x11 =>
(cond (decide ((((x10 : List UInt8).length : Nat) : Int) > 0))
((idxL x10 (IntKind.wrap .i64 ((((x10 : List UInt8).length : Nat) : Int) - 1))).bind fun x12 =>
(cond (((x12.toNat : Nat) : Int) == x11)
((cutL none (some (IntKind.wrap .i64 ((((x10 : List UInt8).length : Nat) : Int) - 1))) x10).bind fun x13 =>
(some (.inl (0, [(.v (.str x13)), (.v (.int .u8 x11))]))))
(some (.inr (0, [(.v (.str x10))])))))
(some (.inr (0, [(.v (.str x10))]))))))]
noncomputable def cpart_L1 (v : Vs) : Option (Vs ⊕ Vs) := sel v.1 [((asStr? (hV v.2 0)).bind fun x16 =>
((asInt? .u8 (hV v.2 1)).bind fun x17 =>
(cond (decide ((((x16 : List UInt8).length : Nat) : Int) > 0))
((idxL x16 0).bind fun x18 =>
(cond (((x18.toNat : Nat) : Int) == x17)
((cutL (some 1) none x16).bind fun x19 =>
(some (.inl (0, [(.v (.str x19)), (.v (.int .u8 x17))]))))
(some (.inr (0, [(.v (.str x16))])))))
(some (.inr (0, [(.v (.str x16))]))))))]
noncomputable def cpart (a0 : Option (List V)) (a1 : Option (List V)) (a2 : List UInt8) (a3 : List UInt8) (a4 : List UInt8) (a5 : List UInt8) (a6 : Option (List V)) (a7 : Option (List V)) (a8 : Option (List V)) : Option (List UInt8 × Int) :=
((ushow a6 a7 a8).bind fun x0 =>
((hword a2 a3 a4 a5 a0 x0).bind fun x1 =>
(cond x1.2
((sContains x1.1 [123, 48, 125]).bind fun x2 =>
(cond (!x2)
(chk (decide ((([123, 48, 125, 32] : List UInt8).length + (x1.1 : List UInt8).length) ≤ maxStr))
(some (([123, 48, 125, 32] ++ x1.1), 0)))
(some (x1.1, 0))))
((crow a0 a1 a2 a3 a4 a5 a6).bind fun x3 =>
(cond (x3.2 != 0)
(some ([], x3.2))
((hone a2 a3 a4 a5).bind fun x4 =>
((crow a0 a1 x4.1 x4.2.1 x4.2.2.1 x4.2.2.2 a7).bind fun x5 =>
(cond (x5.2 != 0)
(some ([], x5.2))
((nof 1).bind fun x6 =>
((ncmp a8 x6).bind fun x7 =>
(cond (decide (x7 > 0))
(cond (!(x5.1 == []))
(chk (decide ((([32] : List UInt8).length + (x5.1 : List UInt8).length) ≤ maxStr))
((ntext a8).bind fun x8 =>
(chk (decide (((x8 : List UInt8).length + (([32] ++ x5.1) : List UInt8).length) ≤ maxStr))
(cond (decide (x7 > 0))
((hfill a2 a3 a4 a5 a0 [112, 101, 114] [] [] (some [(.str x3.1), (.str (x8 ++ ([32] ++ x5.1)))])).bind fun x9 =>
(cond (x9.2 != 0)
(some ([], x9.2))
(cond (x9.1 == [])
(chk (decide ((([123, 48, 125, 32] : List UInt8).length + (x9.1 : List UInt8).length) ≤ maxStr))
(some (([123, 48, 125, 32] ++ x9.1), 0)))
((loopK cpart_L0 FU (0, [(.v (.str x9.1)), (.v (.int .u8 32))])).bind fun x14 => sel x14.1 [((asStr? (hV x14.2 0)).bind fun x15 =>
((loopK cpart_L1 FU (0, [(.v (.str x15)), (.v (.int .u8 32))])).bind fun x20 => sel x20.1 [((asStr? (hV x20.2 0)).bind fun x21 =>
(chk (decide ((([123, 48, 125, 32] : List UInt8).length + (x21 : List UInt8).length) ≤ maxStr))
(some (([123, 48, 125, 32] ++ x21), 0))))]))]))))
(cond (decide (((slLen a7 : Nat) : Int) > 0))
((hfill a2 a3 a4 a5 a0 [112, 101, 114] [] [] (some [(.str x3.1), (.str (x8 ++ ([32] ++ x5.1)))])).bind fun x22 =>
(cond (x22.2 != 0)
(some ([], x22.2))
(cond (x22.1 == [])
(chk (decide ((([123, 48, 125, 32] : List UInt8).length + (x22.1 : List UInt8).length) ≤ maxStr))
(some (([123, 48, 125, 32] ++ x22.1), 0)))
((loopK cpart_L0 FU (0, [(.v (.str x22.1)), (.v (.int .u8 32))])).bind fun x27 => sel x27.1 [((asStr? (hV x27.2 0)).bind fun x28 =>
((loopK cpart_L1 FU (0, [(.v (.str x28)), (.v (.int .u8 32))])).bind fun x33 => sel x33.1 [((asStr? (hV x33.2 0)).bind fun x34 =>
(chk (decide ((([123, 48, 125, 32] : List UInt8).length + (x34 : List UInt8).length) ≤ maxStr))
(some (([123, 48, 125, 32] ++ x34), 0))))]))]))))
(chk (decide ((([123, 48, 125, 32] : List UInt8).length + (x3.1 : List UInt8).length) ≤ maxStr))
(some (([123, 48, 125, 32] ++ x3.1), 0))))))))
((ntext a8).bind fun x35 =>
(chk (decide (((x35 : List UInt8).length + (x5.1 : List UInt8).length) ≤ maxStr))
(cond (decide (x7 > 0))
((hfill a2 a3 a4 a5 a0 [112, 101, 114] [] [] (some [(.str x3.1), (.str (x35 ++ x5.1))])).bind fun x36 =>
(cond (x36.2 != 0)
(some ([], x36.2))
(cond (x36.1 == [])
(chk (decide ((([123, 48, 125, 32] : List UInt8).length + (x36.1 : List UInt8).length) ≤ maxStr))
(some (([123, 48, 125, 32] ++ x36.1), 0)))
((loopK cpart_L0 FU (0, [(.v (.str x36.1)), (.v (.int .u8 32))])).bind fun x41 => sel x41.1 [((asStr? (hV x41.2 0)).bind fun x42 =>
((loopK cpart_L1 FU (0, [(.v (.str x42)), (.v (.int .u8 32))])).bind fun x47 => sel x47.1 [((asStr? (hV x47.2 0)).bind fun x48 =>
(chk (decide ((([123, 48, 125, 32] : List UInt8).length + (x48 : List UInt8).length) ≤ maxStr))
(some (([123, 48, 125, 32] ++ x48), 0))))]))]))))
(cond (decide (((slLen a7 : Nat) : Int) > 0))
((hfill a2 a3 a4 a5 a0 [112, 101, 114] [] [] (some [(.str x3.1), (.str (x35 ++ x5.1))])).bind fun x49 =>
(cond (x49.2 != 0)
(some ([], x49.2))
(cond (x49.1 == [])
(chk (decide ((([123, 48, 125, 32] : List UInt8).length + (x49.1 : List UInt8).length) ≤ maxStr))
(some (([123, 48, 125, 32] ++ x49.1), 0)))
((loopK cpart_L0 FU (0, [(.v (.str x49.1)), (.v (.int .u8 32))])).bind fun x54 => sel x54.1 [((asStr? (hV x54.2 0)).bind fun x55 =>
((loopK cpart_L1 FU (0, [(.v (.str x55)), (.v (.int .u8 32))])).bind fun x60 => sel x60.1 [((asStr? (hV x60.2 0)).bind fun x61 =>
(chk (decide ((([123, 48, 125, 32] : List UInt8).length + (x61 : List UInt8).length) ≤ maxStr))
(some (([123, 48, 125, 32] ++ x61), 0))))]))]))))
(chk (decide ((([123, 48, 125, 32] : List UInt8).length + (x3.1 : List UInt8).length) ≤ maxStr))
(some (([123, 48, 125, 32] ++ x3.1), 0))))))))
(cond (decide (x7 > 0))
((hfill a2 a3 a4 a5 a0 [112, 101, 114] [] [] (some [(.str x3.1), (.str x5.1)])).bind fun x62 =>
(cond (x62.2 != 0)
(some ([], x62.2))
(cond (x62.1 == [])
(chk (decide ((([123, 48, 125, 32] : List UInt8).length + (x62.1 : List UInt8).length) ≤ maxStr))
(some (([123, 48, 125, 32] ++ x62.1), 0)))
((loopK cpart_L0 FU (0, [(.v (.str x62.1)), (.v (.int .u8 32))])).bind fun x67 => sel x67.1 [((asStr? (hV x67.2 0)).bind fun x68 =>
((loopK cpart_L1 FU (0, [(.v (.str x68)), (.v (.int .u8 32))])).bind fun x73 => sel x73.1 [((asStr? (hV x73.2 0)).bind fun x74 =>
(chk (decide ((([123, 48, 125, 32] : List UInt8).length + (x74 : List UInt8).length) ≤ maxStr))
(some (([123, 48, 125, 32] ++ x74), 0))))]))]))))
(cond (decide (((slLen a7 : Nat) : Int) > 0))
((hfill a2 a3 a4 a5 a0 [112, 101, 114] [] [] (some [(.str x3.1), (.str x5.1)])).bind fun x75 =>
(cond (x75.2 != 0)
(some ([], x75.2))
(cond (x75.1 == [])
(chk (decide ((([123, 48, 125, 32] : List UInt8).length + (x75.1 : List UInt8).length) ≤ maxStr))
(some (([123, 48, 125, 32] ++ x75.1), 0)))
((loopK cpart_L0 FU (0, [(.v (.str x75.1)), (.v (.int .u8 32))])).bind fun x80 => sel x80.1 [((asStr? (hV x80.2 0)).bind fun x81 =>
((loopK cpart_L1 FU (0, [(.v (.str x81)), (.v (.int .u8 32))])).bind fun x86 => sel x86.1 [((asStr? (hV x86.2 0)).bind fun x87 =>
(chk (decide ((([123, 48, 125, 32] : List UInt8).length + (x87 : List UInt8).length) ≤ maxStr))
(some (([123, 48, 125, 32] ++ x87), 0))))]))]))))
(chk (decide ((([123, 48, 125, 32] : List UInt8).length + (x3.1 : List UInt8).length) ≤ maxStr))
(some (([123, 48, 125, 32] ++ x3.1), 0))))))))))))))))
noncomputable def cpart_e : List SV → Objs → Option ((β : Type) → (SV → Objs → Option β) → Option β)
  | [.a (.v (.pt a0)), .a (.v (.pt a1)), .a (.v (.agg [(.str a2), (.str a3), (.str a4), (.str a5)])), .a (.v (.agg [(.sl a6), (.sl a7), (.sl a8)]))], os => some fun _ K => (cpart a0 a1 a2 a3 a4 a5 a6 a7 a8).bind fun p => K (.a (.v (.tup [(.str p.1), (.int .i64 p.2)]))) os
  | _, _ => none
noncomputable def cpart_k (sv : SV) (os : Objs) : Option (List UInt8 × Int) := match sv, os with
  | .a (.v v), [] => dTy (.tup [(.k .str), (.k (.int .i64))]) v fun v => (match v with | (.tup [(.str r0), (.int .i64 r1)]) => some (r0, r1) | _ => none)
  | _, _ => none
noncomputable def cpart_n : FuncId → Nat → Ann := fun f n => match f, n with
  | 42, 3 => ⟨[], [⟨[⟨[.a (.h (.t1 (.k .str))), .a (.h (.t1 (.k (.int .u8)))), .u, .u, .u, .u, .u, .u, .u, .u, .u, .u, .u, .u, .u, .u, .u, .u, .u, .u, .u, .u, .u], [.no, .no, .no]⟩], [((.ex 0), ⟨[.a (.h (.t1 (.k .str))), .u, .u, .u, .u, .u, .u, .u, .u, .u, .u, .u, .u, .u, .u, .u, .u, .u, .u, .u, .u, .u, .u], [.no, .no, .no]⟩)]⟩], false⟩
  | 41, 3 => ⟨[], [⟨[⟨[.a (.h (.t1 (.k .str))), .a (.h (.t1 (.k (.int .u8)))), .u, .u, .u, .u, .u, .u, .u, .u, .u, .u, .u, .u, .u, .u, .u], [.no, .no, .no]⟩], [((.ex 0), ⟨[.a (.h (.t1 (.k .str))), .u, .u, .u, .u, .u, .u, .u, .u, .u, .u, .u, .u, .u, .u, .u, .u], [.no, .no, .no]⟩)]⟩], false⟩
  | _, _ => ⟨[], [], false⟩
theorem cpart_q : (fun (a0 : Option (List V)) (a1 : Option (List V)) (a2 : List UInt8) (a3 : List UInt8) (a4 : List UInt8) (a5 : List UInt8) (a6 : Option (List V)) (a7 : Option (List V)) (a8 : Option (List V)) => stN tab0_42 code cpart_n FU 24 15 [.a (.v (.pt a0)), .a (.v (.pt a1)), .a (.v (.agg [(.str a2), (.str a3), (.str a4), (.str a5)])), .a (.v (.agg [(.sl a6), (.sl a7), (.sl a8)]))] [] cpart_k) = (fun (a0 : Option (List V)) (a1 : Option (List V)) (a2 : List UInt8) (a3 : List UInt8) (a4 : List UInt8) (a5 : List UInt8) (a6 : Option (List V)) (a7 : Option (List V)) (a8 : Option (List V)) => cpart a0 a1 a2 a3 a4 a5 a6 a7 a8) := by kernel_rfl
noncomputable def tab0_43 : ToldK := addTo tab0_42 15 cpart_e
theorem cpart_h : EntryOK tab0_42 code cpart_n FU 24 15 cpart_e := by
  intro args os t h
  unfold cpart_e at h
  split at h
  · rename_i os0 a0 a1 a2 a3 a4 a5 a6 a7 a8
    cases h
    exact ⟨_, _, fun p => (.tup [(.str p.1), (.int .i64 p.2)]), cpart_k, ids_all rfl, fun _ _ => rfl, (congrFun (congrFun (congrFun (congrFun (congrFun (congrFun (congrFun (congrFun (congrFun cpart_q _) _) _) _) _) _) _) _) _), fun sv os p hp => by
      unfold cpart_k at hp
      split at hp
      · have hp := dTy_ok hp
        split at hp
        · cases hp; exact ⟨rfl, rfl⟩
        · cases hp
      · cases hp⟩
  · cases h
/-! cubit/cubitlaw24.heavy -/
noncomputable def heavy24_L1 (v : Vs) : Option (Vs ⊕ Vs) := sel v.1 [((asSl? (hV v.2 0)).bind fun x6 =>
((asInt? .i64 (hV v.2 1)).bind fun x7 =>
((asInt? .i64 (hV v.2 2)).bind fun x8 =>
((idxL (x6.getD []) x7).bind fun x9 =>
((asAgg? 2 x9).bind fun x10 =>
((asInt? .i64 (x10.getD 0 .nilp)).bind fun x11 =>
((asSl? (x10.getD 1 .nilp)).bind fun x12 =>
(cond (decide (x8 < ((slLen x12 : Nat) : Int)))
((idxL (x6.getD []) x7).bind fun x13 =>
((asAgg? 2 x13).bind fun x14 =>
((asInt? .i64 (x14.getD 0 .nilp)).bind fun x15 =>
((asSl? (x14.getD 1 .nilp)).bind fun x16 =>
((idxL (x16.getD []) x8).bind fun x17 =>
((asStr? x17).bind fun x18 =>
(cond (decide ((((x18 : List UInt8).length : Nat) : Int) > 120))
(some (.inr (0, [(.v (.bool true))])))
(some (.inl (0, [(.v (.sl x6)), (.v (.int .i64 x7)), (.v (.int .i64 (IntKind.wrap .i64 (x8 + 1))))]))))))))))
(some (.inr (1, [(.v (.sl x6)), (.v (.int .i64 x7))])))))))))))]
noncomputable def heavy24_L0 (v : Vs) : Option (Vs ⊕ Vs) := sel v.1 [((asSl? (hV v.2 0)).bind fun x0 =>
((asInt? .i64 (hV v.2 1)).bind fun x1 =>
(cond (decide (x1 < ((slLen x0 : Nat) : Int)))
((idxL (x0.getD []) x1).bind fun x2 =>
((asAgg? 2 x2).bind fun x3 =>
((asInt? .i64 (x3.getD 0 .nilp)).bind fun x4 =>
((asSl? (x3.getD 1 .nilp)).bind fun x5 =>
(cond (decide (((slLen x5 : Nat) : Int) > 30))
(some (.inr (0, [(.v (.bool true))])))
((loopK heavy24_L1 FU (0, [(.v (.sl x0)), (.v (.int .i64 x1)), (.v (.int .i64 0))])).bind fun x19 => sel x19.1 [((asBool? (hV x19.2 0)).bind fun x20 =>
(some (.inr (0, [(.v (.bool x20))])))),
((asSl? (hV x19.2 0)).bind fun x21 =>
((asInt? .i64 (hV x19.2 1)).bind fun x22 =>
(some (.inl (0, [(.v (.sl x21)), (.v (.int .i64 (IntKind.wrap .i64 (x22 + 1))))])))))]))))))
(some (.inr (1, []))))))]
noncomputable def heavy24 (a0 : Option (List V)) : Option (Bool) :=
(cond (decide (((slLen a0 : Nat) : Int) > 60))
(some (true))
((loopK heavy24_L0 FU (0, [(.v (.sl a0)), (.v (.int .i64 0))])).bind fun x23 => sel x23.1 [((asBool? (hV x23.2 0)).bind fun x24 =>
(some (x24))),
(some (false))]))
noncomputable def heavy24_e : List SV → Objs → Option ((β : Type) → (SV → Objs → Option β) → Option β)
  | [.a (.v (.sl a0))], os => some fun _ K => (heavy24 a0).bind fun p => K (.a (.v (.bool p))) os
  | _, _ => none
noncomputable def heavy24_k (sv : SV) (os : Objs) : Option (Bool) := match sv, os with
  | .a (.v v), [] => dTy (.t1 (.k .bool)) v fun v => (match v with | (.bool r0) => some (r0) | _ => none)
  | _, _ => none
noncomputable def heavy24_n : FuncId → Nat → Ann := fun f n => match f, n with
  | 10, 0 => ⟨[(16, (.t1 (.agg [(.int .i64), .sl]))), (24, (.t1 (.agg [(.int .i64), .sl]))), (33, (.t1 (.agg [(.int .i64), .sl]))), (37, (.t1 (.k .str)))], [⟨[⟨[.a (.h (.t1 (.k .sl))), .u, .u, .a (.h (.t1 (.k (.int .i64)))), .u, .u, .u, .u, .u, .u, .u, .u, .u, .u, .u, .u, .u, .u, .u, .u, .u, .u, .u, .u, .u, .u, .u, .u, .u, .u, .u, .u, .u, .u, .u, .u, .u, .u, .u, .u, .u], []⟩], [(.ret, ⟨[.u, .u, .a (.h (.t1 (.k .bool))), .u, .u, .u, .u, .u, .u, .u, .u, .u, .u, .u, .u, .u, .u, .u, .u, .u, .u, .u, .u, .u, .u, .u, .u, .u, .u, .u, .u, .u, .u, .u, .u, .u, .u, .u, .u, .u, .u], []⟩), ((.ex 0), ⟨[.u, .u, .u, .u, .u, .u, .u, .u, .u, .u, .u, .u, .u, .u, .u, .u, .u, .u, .u, .u, .u, .u, .u, .u, .u, .u, .u, .u, .u, .u, .u, .u, .u, .u, .u, .u, .u, .u, .u, .u, .u], []⟩)]⟩, ⟨[⟨[.a (.h (.t1 (.k .sl))), .u, .u, .a (.h (.t1 (.k (.int .i64)))), .a (.h (.t1 (.k (.int .i64)))), .u, .u, .u, .u, .u, .u, .u, .u, .u, .u, .u, .u, .u, .u, .u, .u, .u, .u, .u, .u, .u, .u, .u, .u, .u, .u, .u, .u, .u, .u, .u, .u, .u, .u, .u, .u], []⟩], [(.ret, ⟨[.u, .u, .a (.h (.t1 (.k .bool))), .u, .u, .u, .u, .u, .u, .u, .u, .u, .u, .u, .u, .u, .u, .u, .u, .u, .u, .u, .u, .u, .u, .u, .u, .u, .u, .u, .u, .u, .u, .u, .u, .u, .u, .u, .u, .u, .u], []⟩), ((.ex 2), ⟨[.a (.h (.t1 (.k .sl))), .u, .u, .a (.h (.t1 (.k (.int .i64)))), .u, .u, .u, .u, .u, .u, .u, .u, .u, .u, .u, .u, .u, .u, .u, .u, .u, .u, .u, .u, .u, .u, .u, .u, .u, .u, .u, .u, .u, .u, .u, .u, .u, .u, .u, .u, .u], []⟩)]⟩], false⟩
  | _, _ => ⟨[], [], false⟩
theorem heavy24_q : (fun (a0 : Option (List V)) => stN tab0_43 code heavy24_n FU 24 10 [.a (.v (.sl a0))] [] heavy24_k) = (fun (a0 : Option (List V)) => heavy24 a0) := by kernel_rfl
noncomputable def tab0_44 : ToldK := addTo tab0_43 10 heavy24_e
theorem heavy24_h : EntryOK tab0_43 code heavy24_n FU 24 10 heavy24_e := by
  intro args os t h
  unfold heavy24_e at h
  split at h
  · rename_i os0 a0
    cases h
    exact ⟨_, _, fun p => (.bool p), heavy24_k, ids_all rfl, fun _ _ => rfl, (congrFun heavy24_q _), fun sv os p hp => by
      unfold heavy24_k at hp
      split at hp
      · have hp := dTy_ok hp
        split at hp
        · cases hp; exact ⟨rfl, rfl⟩
        · cases hp
      · cases hp⟩
  · cases h
/-! cubit/cubitlaw24.has -/
noncomputable def has24_L0 (v : Vs) : Option (Vs ⊕ Vs) := sel v.1 [((asStr? (hV v.2 0)).bind fun x0 =>
((asInt? .i64 (hV v.2 1)).bind fun x1 =>
(cond (decide (x1 < (((x0 : List UInt8).length : Nat) : Int)))
((idxL x0 x1).bind fun x2 =>
(cond (((x2.toNat : Nat) : Int) == 123)
(some (.inr (0, [(.v (.bool true))])))
(some (.inl (0, [(.v (.str x0)), (.v (.int .i64 (IntKind.wrap .i64 (x1 + 1))))])))))
(some (.inr (1, []))))))]
noncomputable def has24 (a0 : List UInt8) : Option (Bool) :=
((loopK has24_L0 FU (0, [(.v (.str a0)), (.v (.int .i64 0))])).bind fun x3 => sel x3.1 [((asBool? (hV x3.2 0)).bind fun x4 =>
(some (x4))),
(some (false))])
noncomputable def has24_e : List SV → Objs → Option ((β : Type) → (SV → Objs → Option β) → Option β)
  | [.a (.v (.str a0))], os => some fun _ K => (has24 a0).bind fun p => K (.a (.v (.bool p))) os
  | _, _ => none
noncomputable def has24_k (sv : SV) (os : Objs) : Option (Bool) := match sv, os with
  | .a (.v v), [] => dTy (.t1 (.k .bool)) v fun v => (match v with | (.bool r0) => some (r0) | _ => none)
  | _, _ => none
noncomputable def has24_n : FuncId → Nat → Ann := fun f n => match f, n with
  | 8, 0 => ⟨[], [⟨[⟨[.a (.h (.t1 (.k .str))), .u, .u, .a (.h (.t1 (.k (.int .i64)))), .u, .u, .u, .u, .u, .u, .u, .u, .u, .u], []⟩], [(.ret, ⟨[.u, .u, .a (.h (.t1 (.k .bool))), .u, .u, .u, .u, .u, .u, .u, .u, .u, .u, .u], []⟩), ((.ex 0), ⟨[.u, .u, .u, .u, .u, .u, .u, .u, .u, .u, .u, .u, .u, .u], []⟩)]⟩], false⟩
  | _, _ => ⟨[], [], false⟩
theorem has24_q : (fun (a0 : List UInt8) => stN tab0_44 code has24_n FU 24 8 [.a (.v (.str a0))] [] has24_k) = (fun (a0 : List UInt8) => has24 a0) := by kernel_rfl
noncomputable def tab0_45 : ToldK := addTo tab0_44 8 has24_e
theorem has24_h : EntryOK tab0_44 code has24_n FU 24 8 has24_e := by
  intro args os t h
  unfold has24_e at h
  split at h
  · rename_i os0 a0
    cases h
    exact ⟨_, _, fun p => (.bool p), has24_k, ids_all rfl, fun _ _ => rfl, (congrFun has24_q _), fun sv os p hp => by
      unfold has24_k at hp
      split at hp
      · have hp := dTy_ok hp
        split at hp
        · cases hp; exact ⟨rfl, rfl⟩
        · cases hp
      · cases hp⟩
  · cases h
/-! cubit/cubitlaw24.load -/
noncomputable def load24 (a0 : List UInt8) : Option (Option (List V) × Option (List V)) :=
((rparse a0).bind fun x0 =>
(cond (x0.2.2 != 0)
(some (none, none))
((pload x0.1).bind fun x1 =>
((gload x0.1).bind fun x2 =>
(cond (x1.2.2 != 0)
(some (none, none))
(cond (x2.2.2 != 0)
(some (none, none))
(some (x1.1, x2.1))))))))
noncomputable def load24_e : List SV → Objs → Option ((β : Type) → (SV → Objs → Option β) → Option β)
  | [.a (.v (.str a0))], os => some fun _ K => (load24 a0).bind fun p => K (.a (.v (.tup [(.pt p.1), (.pt p.2)]))) os
  | _, _ => none
noncomputable def load24_k (sv : SV) (os : Objs) : Option (Option (List V) × Option (List V)) := match sv, os with
  | .a (.v v), [] => dTy (.tup [(.k .pt), (.k .pt)]) v fun v => (match v with | (.tup [(.pt r0), (.pt r1)]) => some (r0, r1) | _ => none)
  | _, _ => none
noncomputable def load24_n : FuncId → Nat → Ann := fun f n => match f, n with
  | _, _ => ⟨[], [], false⟩
theorem load24_q : (fun (a0 : List UInt8) => stN tab0_45 code load24_n FU 24 18 [.a (.v (.str a0))] [] load24_k) = (fun (a0 : List UInt8) => load24 a0) := by kernel_rfl
noncomputable def tab0_46 : ToldK := addTo tab0_45 18 load24_e
theorem load24_h : EntryOK tab0_45 code load24_n FU 24 18 load24_e := by
  intro args os t h
  unfold load24_e at h
  split at h
  · rename_i os0 a0
    cases h
    exact ⟨_, _, fun p => (.tup [(.pt p.1), (.pt p.2)]), load24_k, ids_all rfl, fun _ _ => rfl, (congrFun load24_q _), fun sv os p hp => by
      unfold load24_k at hp
      split at hp
      · have hp := dTy_ok hp
        split at hp
        · cases hp; exact ⟨rfl, rfl⟩
        · cases hp
      · cases hp⟩
  · cases h
/-! cubit/cubitlaw24.part -/
noncomputable def part24 (a0 : Option (List V)) (a1 : Option (List V)) (a2 : Int) (a3 : List UInt8) : Option (List UInt8) :=
((load24 [112, 108, 117, 114, 97, 108, 32, 101, 110, 32, 111, 110, 101, 32, 105, 32, 61, 32, 49, 32, 97, 110, 100, 32, 118, 32, 61, 32, 48, 10, 119, 111, 114, 100, 32, 101, 110, 32, 108, 111, 110, 103, 32, 109, 101, 116, 101, 114, 32, 111, 110, 101, 32, 45, 32, 123, 48, 125, 95, 109, 101, 116, 101, 114, 10, 119, 111, 114, 100, 32, 101, 110, 32, 108, 111, 110, 103, 32, 109, 101, 116, 101, 114, 32, 111, 116, 104, 101, 114, 32, 45, 32, 123, 48, 125, 95, 109, 101, 116, 101, 114, 115, 10, 119, 111, 114, 100, 32, 101, 110, 32, 108, 111, 110, 103, 32, 102, 111, 111, 116, 32, 111, 110, 101, 32, 45, 32, 123, 48, 125, 95, 102, 111, 111, 116, 10, 119, 111, 114, 100, 32, 101, 110, 32, 108, 111, 110, 103, 32, 102, 111, 111, 116, 32, 111, 116, 104, 101, 114, 32, 45, 32, 123, 48, 125, 95, 102, 101, 101, 116, 10, 119, 111, 114, 100, 32, 101, 110, 32, 108, 111, 110, 103, 32, 105, 110, 99, 104, 32, 111, 116, 104, 101, 114, 32, 45, 32, 123, 48, 125, 95, 105, 110, 99, 104, 101, 115, 10, 119, 111, 114, 100, 32, 101, 110, 32, 108, 111, 110, 103, 32, 115, 101, 99, 111, 110, 100, 32, 111, 110, 101, 32, 45, 32, 123, 48, 125, 95, 115, 101, 99, 111, 110, 100, 10, 119, 111, 114, 100, 32, 101, 110, 32, 108, 111, 110, 103, 32, 115, 101, 99, 111, 110, 100, 32, 111, 116, 104, 101, 114, 32, 45, 32, 123, 48, 125, 95, 115, 101, 99, 111, 110, 100, 115, 10, 119, 111, 114, 100, 32, 101, 110, 32, 115, 104, 111, 114, 116, 32, 109, 101, 116, 101, 114, 32, 111, 116, 104, 101, 114, 32, 45, 32, 123, 48, 125, 95, 109, 10, 119, 111, 114, 100, 32, 101, 110, 32, 108, 111, 110, 103, 32, 102, 97, 104, 114, 101, 110, 104, 101, 105, 116, 32, 111, 116, 104, 101, 114, 32, 45, 32, 123, 48, 125, 95, 100, 101, 103, 114, 101, 101, 115, 95, 70, 97, 104, 114, 101, 110, 104, 101, 105, 116, 10, 119, 111, 114, 100, 32, 101, 110, 32, 108, 111, 110, 103, 32, 99, 101, 108, 115, 105, 117, 115, 32, 111, 116, 104, 101, 114, 32, 45, 32, 123, 48, 125, 95, 100, 101, 103, 114, 101, 101, 115, 95, 67, 101, 108, 115, 105, 117, 115, 10, 112, 114, 101, 102, 105, 120, 101, 100, 32, 101, 110, 32, 108, 111, 110, 103, 32, 107, 105, 108, 111, 32, 107, 105, 108, 111, 123, 48, 125, 10, 112, 111, 119, 101, 114, 32, 101, 110, 32, 108, 111, 110, 103, 32, 50, 32, 45, 32, 115, 113, 117, 97, 114, 101, 95, 123, 48, 125, 10, 112, 101, 114, 32, 101, 110, 32, 108, 111, 110, 103, 32, 123, 48, 125, 95, 112, 101, 114, 95, 123, 49, 125, 10, 116, 105, 109, 101, 115, 32, 101, 110, 32, 108, 111, 110, 103, 32, 123, 48, 125, 45, 123, 49, 125, 10, 108, 105, 115, 116, 32, 101, 110, 32, 108, 111, 110, 103, 32, 123, 48, 125, 44, 95, 123, 49, 125, 32, 123, 48, 125, 44, 95, 123, 49, 125, 32, 123, 48, 125, 44, 95, 123, 49, 125, 32, 123, 48, 125, 44, 95, 123, 49, 125, 10]).bind fun x0 =>
(cond (x0.1.isNone)
(some ([63]))
(cond (x0.2.isNone)
(some ([63]))
((nof a2).bind fun x1 =>
((cpart x0.1 x0.2 [101, 110] [108, 111, 110, 103] a3 [] a0 a1 x1).bind fun x2 =>
(cond (x2.2 == 9)
(some ([69]))
(some (x2.1))))))))
noncomputable def part24_e : List SV → Objs → Option ((β : Type) → (SV → Objs → Option β) → Option β)
  | [.a (.v (.sl a0)), .a (.v (.sl a1)), .a (.v (.int .u64 a2)), .a (.v (.str a3))], os => some fun _ K => (part24 a0 a1 a2 a3).bind fun p => K (.a (.v (.str p))) os
  | _, _ => none
noncomputable def part24_k (sv : SV) (os : Objs) : Option (List UInt8) := match sv, os with
  | .a (.v v), [] => dTy (.t1 (.k .str)) v fun v => (match v with | (.str r0) => some (r0) | _ => none)
  | _, _ => none
noncomputable def part24_n : FuncId → Nat → Ann := fun f n => match f, n with
  | _, _ => ⟨[], [], false⟩
theorem part24_q : (fun (a0 : Option (List V)) (a1 : Option (List V)) (a2 : Int) (a3 : List UInt8) => stN tab0_46 code part24_n FU 24 9 [.a (.v (.sl a0)), .a (.v (.sl a1)), .a (.v (.int .u64 a2)), .a (.v (.str a3))] [] part24_k) = (fun (a0 : Option (List V)) (a1 : Option (List V)) (a2 : Int) (a3 : List UInt8) => part24 a0 a1 a2 a3) := by kernel_rfl
noncomputable def tab0_47 : ToldK := addTo tab0_46 9 part24_e
theorem part24_h : EntryOK tab0_46 code part24_n FU 24 9 part24_e := by
  intro args os t h
  unfold part24_e at h
  split at h
  · rename_i os0 a0 a1 a2 a3
    cases h
    exact ⟨_, _, fun p => (.str p), part24_k, ids_all rfl, fun _ _ => rfl, (congrFun (congrFun (congrFun (congrFun part24_q _) _) _) _), fun sv os p hp => by
      unfold part24_k at hp
      split at hp
      · have hp := dTy_ok hp
        split at hp
        · cases hp; exact ⟨rfl, rfl⟩
        · cases hp
      · cases hp⟩
  · cases h
end Go.Proofs.YtmlhdhndjgdoaaaGreatDoor.cp
