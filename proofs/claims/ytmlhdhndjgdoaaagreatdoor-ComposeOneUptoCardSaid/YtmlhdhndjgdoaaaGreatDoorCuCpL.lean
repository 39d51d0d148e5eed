/- The staged evaluator over the program, in normal form: printed by a program (sym.lean), each held against it by the kernel. -/
import Derived.Test.YtmlhdhndjgdoaaaGreatDoorCuCpC
namespace Go.Proofs.YtmlhdhndjgdoaaaGreatDoor.cp
open Go Go.Ev
set_option maxRecDepth 1000000
set_option linter.unusedVariables false
set_option maxHeartbeats 4000000

noncomputable def masLow_r : List V := [(.bool false), (.bool false), (.bool false), (.bool false), (.bool false), (.bool false), (.bool false), (.bool false), (.bool false), (.bool false), (.bool false), (.bool false), (.bool false), (.bool false), (.bool false), (.bool false), (.bool false), (.bool false), (.bool false), (.bool false), (.bool false), (.bool false), (.bool false), (.bool false), (.bool false), (.bool false), (.bool false), (.bool false), (.bool false), (.bool false), (.bool false), (.bool false), (.bool false), (.bool false), (.bool false), (.bool false), (.bool false), (.bool false), (.bool false), (.bool false), (.bool false), (.bool false), (.bool false), (.bool false), (.bool false), (.bool false), (.bool false), (.bool false), (.bool false), (.bool false), (.bool false), (.bool false), (.bool false), (.bool false), (.bool false), (.bool false), (.bool false), (.bool false), (.bool false), (.bool false), (.bool false), (.bool false), (.bool false), (.bool false), (.bool false), (.bool false), (.bool false), (.bool false), (.bool false), (.bool false), (.bool false), (.bool false), (.bool false), (.bool false), (.bool false), (.bool false), (.bool false), (.bool false), (.bool false), (.bool false), (.bool false), (.bool false), (.bool false), (.bool false), (.bool false), (.bool false), (.bool false), (.bool false), (.bool false), (.bool false), (.bool false), (.bool false), (.bool false), (.bool false), (.bool false), (.bool false), (.bool false), (.bool true), (.bool true), (.bool true), (.bool true), (.bool true), (.bool true), (.bool true), (.bool true), (.bool true), (.bool true), (.bool true), (.bool true), (.bool true), (.bool true), (.bool true), (.bool true), (.bool true), (.bool true), (.bool true), (.bool true), (.bool true), (.bool true), (.bool true), (.bool true), (.bool true), (.bool true), (.bool false), (.bool false), (.bool false), (.bool false), (.bool false), (.bool false), (.bool false), (.bool false), (.bool false), (.bool false), (.bool false), (.bool false), (.bool false), (.bool false), (.bool false), (.bool false), (.bool false), (.bool false), (.bool false), (.bool false), (.bool false), (.bool false), (.bool false), (.bool false), (.bool false), (.bool false), (.bool false), (.bool false), (.bool false), (.bool false), (.bool false), (.bool false), (.bool false), (.bool false), (.bool false), (.bool false), (.bool false), (.bool false), (.bool false), (.bool false), (.bool false), (.bool false), (.bool false), (.bool false), (.bool false), (.bool false), (.bool false), (.bool false), (.bool false), (.bool false), (.bool false), (.bool false), (.bool false), (.bool false), (.bool false), (.bool false), (.bool false), (.bool false), (.bool false), (.bool false), (.bool false), (.bool false), (.bool false), (.bool false), (.bool false), (.bool false), (.bool false), (.bool false), (.bool false), (.bool false), (.bool false), (.bool false), (.bool false), (.bool false), (.bool false), (.bool false), (.bool false), (.bool false), (.bool false), (.bool false), (.bool false), (.bool false), (.bool false), (.bool false), (.bool false), (.bool false), (.bool false), (.bool false), (.bool false), (.bool false), (.bool false), (.bool false), (.bool false), (.bool false), (.bool false), (.bool false), (.bool false), (.bool false), (.bool false), (.bool false), (.bool false), (.bool false), (.bool false), (.bool false), (.bool false), (.bool false), (.bool false), (.bool false), (.bool false), (.bool false), (.bool false), (.bool false), (.bool false), (.bool false), (.bool false), (.bool false), (.bool false), (.bool false), (.bool false), (.bool false), (.bool false), (.bool false), (.bool false), (.bool false), (.bool false), (.bool false), (.bool false), (.bool false), (.bool false), (.bool false), (.bool false), (.bool false), (.bool false)]
noncomputable def masName_r : List V := [(.bool false), (.bool false), (.bool false), (.bool false), (.bool false), (.bool false), (.bool false), (.bool false), (.bool false), (.bool false), (.bool false), (.bool false), (.bool false), (.bool false), (.bool false), (.bool false), (.bool false), (.bool false), (.bool false), (.bool false), (.bool false), (.bool false), (.bool false), (.bool false), (.bool false), (.bool false), (.bool false), (.bool false), (.bool false), (.bool false), (.bool false), (.bool false), (.bool false), (.bool false), (.bool false), (.bool false), (.bool false), (.bool false), (.bool false), (.bool false), (.bool false), (.bool false), (.bool false), (.bool false), (.bool false), (.bool true), (.bool false), (.bool false), (.bool true), (.bool true), (.bool true), (.bool true), (.bool true), (.bool true), (.bool true), (.bool true), (.bool true), (.bool true), (.bool false), (.bool false), (.bool false), (.bool false), (.bool false), (.bool false), (.bool false), (.bool false), (.bool false), (.bool false), (.bool false), (.bool false), (.bool false), (.bool false), (.bool false), (.bool false), (.bool false), (.bool false), (.bool false), (.bool false), (.bool false), (.bool false), (.bool false), (.bool false), (.bool false), (.bool false), (.bool false), (.bool false), (.bool false), (.bool false), (.bool false), (.bool false), (.bool false), (.bool false), (.bool false), (.bool false), (.bool false), (.bool false), (.bool false), (.bool true), (.bool true), (.bool true), (.bool true), (.bool true), (.bool true), (.bool true), (.bool true), (.bool true), (.bool true), (.bool true), (.bool true), (.bool true), (.bool true), (.bool true), (.bool true), (.bool true), (.bool true), (.bool true), (.bool true), (.bool true), (.bool true), (.bool true), (.bool true), (.bool true), (.bool true), (.bool false), (.bool false), (.bool false), (.bool false), (.bool false), (.bool false), (.bool false), (.bool false), (.bool false), (.bool false), (.bool false), (.bool false), (.bool false), (.bool false), (.bool false), (.bool false), (.bool false), (.bool false), (.bool false), (.bool false), (.bool false), (.bool false), (.bool false), (.bool false), (.bool false), (.bool false), (.bool false), (.bool false), (.bool false), (.bool false), (.bool false), (.bool false), (.bool false), (.bool false), (.bool false), (.bool false), (.bool false), (.bool false), (.bool false), (.bool false), (.bool false), (.bool false), (.bool false), (.bool false), (.bool false), (.bool false), (.bool false), (.bool false), (.bool false), (.bool false), (.bool false), (.bool false), (.bool false), (.bool false), (.bool false), (.bool false), (.bool false), (.bool false), (.bool false), (.bool false), (.bool false), (.bool false), (.bool false), (.bool false), (.bool false), (.bool false), (.bool false), (.bool false), (.bool false), (.bool false), (.bool false), (.bool false), (.bool false), (.bool false), (.bool false), (.bool false), (.bool false), (.bool false), (.bool false), (.bool false), (.bool false), (.bool false), (.bool false), (.bool false), (.bool false), (.bool false), (.bool false), (.bool false), (.bool false), (.bool false), (.bool false), (.bool false), (.bool false), (.bool false), (.bool false), (.bool false), (.bool false), (.bool false), (.bool false), (.bool false), (.bool false), (.bool false), (.bool false), (.bool false), (.bool false), (.bool false), (.bool false), (.bool false), (.bool false), (.bool false), (.bool false), (.bool false), (.bool false), (.bool false), (.bool false), (.bool false), (.bool false), (.bool false), (.bool false), (.bool false), (.bool false), (.bool false), (.bool false), (.bool false), (.bool false), (.bool false), (.bool false), (.bool false), (.bool false), (.bool false), (.bool false), (.bool false), (.bool false)]
/-! strings.makeASCIISet -/
noncomputable def masLow_e : EntryT
  | [.a (.v (.str s0))], os => if s0 = [97, 98, 99, 100, 101, 102, 103, 104, 105, 106, 107, 108, 109, 110, 111, 112, 113, 114, 115, 116, 117, 118, 119, 120, 121, 122] then some fun _ K => K (.a (.v (.tup [(.agg masLow_r), (.bool true)]))) os else none
  | _, _ => none
theorem masLow_q : callM (toE tab0) code FU 24 43 [.a (.v (.str [97, 98, 99, 100, 101, 102, 103, 104, 105, 106, 107, 108, 109, 110, 111, 112, 113, 114, 115, 116, 117, 118, 119, 120, 121, 122]))] [] = some ⟨.a (.v (.tup [(.agg masLow_r), (.bool true)])), []⟩ := by kernel_rfl
noncomputable def tab0_1 : ToldK := addTo tab0 43 masLow_e
theorem masLow_h : EntryEv tab0 code FU 24 43 masLow_e := by
  intro args os t h
  unfold masLow_e at h
  split at h
  · split at h
    · rename_i hc
      cases h
      subst hc
      exact ⟨(.tup [(.agg masLow_r), (.bool true)]), ids_all rfl, fun _ _ => rfl, masLow_q⟩
    · cases h
  · cases h
/-! strings.makeASCIISet -/
noncomputable def masName_e : EntryT
  | [.a (.v (.str s0))], os => if s0 = [97, 98, 99, 100, 101, 102, 103, 104, 105, 106, 107, 108, 109, 110, 111, 112, 113, 114, 115, 116, 117, 118, 119, 120, 121, 122, 48, 49, 50, 51, 52, 53, 54, 55, 56, 57, 45] then some fun _ K => K (.a (.v (.tup [(.agg masName_r), (.bool true)]))) os else none
  | _, _ => none
theorem masName_q : callM (toE tab0_1) code FU 24 43 [.a (.v (.str [97, 98, 99, 100, 101, 102, 103, 104, 105, 106, 107, 108, 109, 110, 111, 112, 113, 114, 115, 116, 117, 118, 119, 120, 121, 122, 48, 49, 50, 51, 52, 53, 54, 55, 56, 57, 45]))] [] = some ⟨.a (.v (.tup [(.agg masName_r), (.bool true)])), []⟩ := by kernel_rfl
noncomputable def tab0_2 : ToldK := addTo tab0_1 43 masName_e
theorem masName_h : EntryEv tab0_1 code FU 24 43 masName_e := by
  intro args os t h
  unfold masName_e at h
  split at h
  · split at h
    · rename_i hc
      cases h
      subst hc
      exact ⟨(.tup [(.agg masName_r), (.bool true)]), ids_all rfl, fun _ _ => rfl, masName_q⟩
    · cases h
  · cases h
/-! cubit/rows.words -/
noncomputable def rwords_L0 (v : Vs) : Option (Vs ⊕ Vs) := sel v.1 [((asSl? (hV v.2 0)).bind fun x1 =>
((asInt? .i64 (hV v.2 1)).bind fun x2 =>
((asInt? .i64 (hV v.2 2)).bind fun x3 =>
(cond (decide (x3 < x2))
((idxL (x1.getD []) x3).bind fun x4 =>
((asStr? x4).bind fun x5 =>
(cond (decide ((((x5 : List UInt8).length : Nat) : Int) ≥ 1))
((cutL none (some 1) x5).bind fun x6 =>
(cond (x6 == [35])
(some (.inr (0, [])))
(cond (!(x5 == []))
(some (.inl (1, [(.v (.sl x1)), (.v (.int .i64 x2)), (.v (.int .i64 (IntKind.wrap .i64 (x3 + 1)))), (.l [(.str x5)])])))
(some (.inl (0, [(.v (.sl x1)), (.v (.int .i64 x2)), (.v (.int .i64 (IntKind.wrap .i64 (x3 + 1))))]))))))
(cond (!(x5 == []))
(some (.inl (1, [(.v (.sl x1)), (.v (.int .i64 x2)), (.v (.int .i64 (IntKind.wrap .i64 (x3 + 1)))), (.l [(.str x5)])])))
(some (.inl (0, [(.v (.sl x1)), (.v (.int .i64 x2)), (.v (.int .i64 (IntKind.wrap .i64 (x3 + 1))))])))))))
(some (.inr (0, []))))))),
((asSl? (hV v.2 0)).bind fun x7 =>
((asInt? .i64 (hV v.2 1)).bind fun x8 =>
((asInt? .i64 (hV v.2 2)).bind fun x9 =>
(cond (decide (x9 < x8))
((idxL (x7.getD []) x9).bind fun x10 =>
((asStr? x10).bind fun x11 =>
(cond (decide ((((x11 : List UInt8).length : Nat) : Int) ≥ 1))
((cutL none (some 1) x11).bind fun x12 =>
(cond (x12 == [35])
(some (.inr (1, [(.l (hL v.2 3))])))
(cond (!(x11 == []))
(chk ((fits ((hL v.2 3).length + 1)) && true)
(some (.inl (1, [(.v (.sl x7)), (.v (.int .i64 x8)), (.v (.int .i64 (IntKind.wrap .i64 (x9 + 1)))), (.l ((hL v.2 3) ++ [(.str x11)] : List V))]))))
(some (.inl (1, [(.v (.sl x7)), (.v (.int .i64 x8)), (.v (.int .i64 (IntKind.wrap .i64 (x9 + 1)))), (.l (hL v.2 3))]))))))
(cond (!(x11 == []))
(chk ((fits ((hL v.2 3).length + 1)) && true)
(some (.inl (1, [(.v (.sl x7)), (.v (.int .i64 x8)), (.v (.int .i64 (IntKind.wrap .i64 (x9 + 1)))), (.l ((hL v.2 3) ++ [(.str x11)] : List V))]))))
(some (.inl (1, [(.v (.sl x7)), (.v (.int .i64 x8)), (.v (.int .i64 (IntKind.wrap .i64 (x9 + 1)))), (.l (hL v.2 3))])))))))
(some (.inr (1, [(.l (hL v.2 3))])))))))]
noncomputable def rwords (a0 : List UInt8) : Option (Option (List V)) :=
((spl a0 [32]).bind fun x0 =>
((loopK rwords_L0 FU (0, [(.v (.sl x0)), (.v (.int .i64 ((slLen x0 : Nat) : Int))), (.v (.int .i64 0))])).bind fun x13 => sel x13.1 [(some (none)),
(some ((some (hL x13.2 0))))]))
noncomputable def rwords_e : List SV → Objs → Option ((β : Type) → (SV → Objs → Option β) → Option β)
  | [.a (.v (.str a0))], os => some fun _ K => (rwords a0).bind fun p => K (.a (.v (.sl p))) os
  | _, _ => none
noncomputable def rwords_k (sv : SV) (os : Objs) : Option (Option (List V)) := match sv, os with
  | .a (.v v), [] => dTy (.t1 (.k .sl)) v fun v => (match v with | (.sl r0) => some (r0) | _ => none)
  | _, _ => none
noncomputable def rwords_n : FuncId → Nat → Ann := fun f n => match f, n with
  | 69, 0 => ⟨[(11, (.t1 (.k .str)))], [⟨[⟨[.u, .u, .u, .a (.nil), .u, .u, .u, .a (.h (.t1 (.k .sl))), .a (.h (.t1 (.k (.int .i64)))), .a (.h (.t1 (.k (.int .i64)))), .u, .u, .u, .u, .u, .u, .u, .u, .u, .u, .u, .u, .u], []⟩, ⟨[.u, .u, .u, .a (.own 0), .u, .u, .u, .a (.h (.t1 (.k .sl))), .a (.h (.t1 (.k (.int .i64)))), .a (.h (.t1 (.k (.int .i64)))), .u, .u, .u, .u, .u, .u, .u, .u, .u, .u, .u, .u, .u], [.ext 9 1]⟩], [((.ex 0), ⟨[.u, .u, .u, .a (.nil), .u, .u, .u, .u, .u, .u, .u, .u, .u, .u, .u, .u, .u, .u, .u, .u, .u, .u, .u], []⟩), ((.ex 0), ⟨[.u, .u, .u, .a (.own 0), .u, .u, .u, .u, .u, .u, .u, .u, .u, .u, .u, .u, .u, .u, .u, .u, .u, .u, .u], [.ext 9 1]⟩)]⟩], false⟩
  | _, _ => ⟨[], [], false⟩
theorem rwords_q : (fun (a0 : List UInt8) => stN tab0_2 code rwords_n FU 24 69 [.a (.v (.str a0))] [] rwords_k) = (fun (a0 : List UInt8) => rwords a0) := by kernel_rfl
noncomputable def tab0_3 : ToldK := addTo tab0_2 69 rwords_e
theorem rwords_h : EntryOK tab0_2 code rwords_n FU 24 69 rwords_e := by
  intro args os t h
  unfold rwords_e at h
  split at h
  · rename_i os0 a0
    cases h
    exact ⟨_, _, fun p => (.sl p), rwords_k, ids_all rfl, fun _ _ => rfl, (congrFun rwords_q _), fun sv os p hp => by
      unfold rwords_k at hp
      split at hp
      · have hp := dTy_ok hp
        split at hp
        · cases hp; exact ⟨rfl, rfl⟩
        · cases hp
      · cases hp⟩
  · cases h
/-! cubit/rows.odd -/
noncomputable def rodd (a0 : Int) : Option (Bool) :=
(cond (decide (a0 < 32))
(some (true))
(some ((decide (a0 > 126)))))
noncomputable def rodd_e : List SV → Objs → Option ((β : Type) → (SV → Objs → Option β) → Option β)
  | [.a (.v (.int .i32 a0))], os => some fun _ K => (rodd a0).bind fun p => K (.a (.v (.bool p))) os
  | _, _ => none
noncomputable def rodd_k (sv : SV) (os : Objs) : Option (Bool) := match sv, os with
  | .a (.v v), [] => dTy (.t1 (.k .bool)) v fun v => (match v with | (.bool r0) => some (r0) | _ => none)
  | _, _ => none
noncomputable def rodd_n : FuncId → Nat → Ann := fun f n => match f, n with
  | _, _ => ⟨[], [], false⟩
theorem rodd_q : (fun (a0 : Int) => stN tab0_3 code rodd_n FU 24 71 [.a (.v (.int .i32 a0))] [] rodd_k) = (fun (a0 : Int) => rodd a0) := by kernel_rfl
noncomputable def tab0_4 : ToldK := addTo tab0_3 71 rodd_e
theorem rodd_h : EntryOK tab0_3 code rodd_n FU 24 71 rodd_e := by
  intro args os t h
  unfold rodd_e at h
  split at h
  · rename_i os0 a0
    cases h
    exact ⟨_, _, fun p => (.bool p), rodd_k, ids_all rfl, fun _ _ => rfl, (congrFun rodd_q _), fun sv os p hp => by
      unfold rodd_k at hp
      split at hp
      · have hp := dTy_ok hp
        split at hp
        · cases hp; exact ⟨rfl, rfl⟩
        · cases hp
      · cases hp⟩
  · cases h
/-! strings.indexFunc -/
noncomputable def sif_L0 (v : Vs) : Option (Vs ⊕ Vs) := sel v.1 [((asBool? (hV v.2 0)).bind fun x0 =>
(cond (decide ((hN v.2 2) < ((hS v.2 1) : List UInt8).length))
((rodd (Utf8.decode ⟨((hS v.2 1) : List UInt8).toArray⟩ (hN v.2 2)).1).bind fun x1 =>
(cond (x1 == x0)
(some (.inr (0, [(.v (.int .i64 (((hN v.2 2) : Nat) : Int)))])))
(some (.inl (0, [(.v (.bool x0)), (.s (hS v.2 1)), (.n ((hN v.2 2) + (Utf8.decode ⟨((hS v.2 1) : List UInt8).toArray⟩ (hN v.2 2)).2))])))))
(some (.inr (1, [])))))]
noncomputable def sif (a0 : List UInt8) (a1 : Bool) : Option (Int) :=
((loopK sif_L0 FU (0, [(.v (.bool a1)), (.s a0), (.n 0)])).bind fun x2 => sel x2.1 [((asInt? .i64 (hV x2.2 0)).bind fun x3 =>
(some (x3))),
(some ((-1)))])
noncomputable def sif_e : List SV → Objs → Option ((β : Type) → (SV → Objs → Option β) → Option β)
  | [.a (.v (.str a0)), .clo 71 [] [], .a (.v (.bool a1))], os => some fun _ K => (sif a0 a1).bind fun p => K (.a (.v (.int .i64 p))) os
  | _, _ => none
noncomputable def sif_k (sv : SV) (os : Objs) : Option (Int) := match sv, os with
  | .a (.v v), [] => dTy (.t1 (.k (.int .i64))) v fun v => (match v with | (.int .i64 r0) => some (r0) | _ => none)
  | _, _ => none
noncomputable def sif_n : FuncId → Nat → Ann := fun f n => match f, n with
  | 115, 0 => ⟨[], [⟨[⟨[.u, .clo 71 [] [], .a (.h (.t1 (.k .bool))), .u, .u, .u, .u, .u, .u, .u, .a (.itr 0), .u, .u, .u, .u, .u, .u, .u, .u, .u, .u], [.iter]⟩], [(.ret, ⟨[.u, .u, .u, .u, .u, .u, .a (.h (.t1 (.k (.int .i64)))), .u, .u, .u, .u, .u, .u, .u, .u, .u, .u, .u, .u, .u, .u], []⟩), ((.ex 0), ⟨[.u, .u, .u, .u, .u, .u, .u, .u, .u, .u, .u, .u, .u, .u, .u, .u, .u, .u, .u, .u, .u], []⟩)]⟩], false⟩
  | _, _ => ⟨[], [], false⟩
theorem sif_q : (fun (a0 : List UInt8) (a1 : Bool) => stN tab0_4 code sif_n FU 24 115 [.a (.v (.str a0)), .clo 71 [] [], .a (.v (.bool a1))] [] sif_k) = (fun (a0 : List UInt8) (a1 : Bool) => sif a0 a1) := by kernel_rfl
noncomputable def tab0_5 : ToldK := addTo tab0_4 115 sif_e
theorem sif_h : EntryOK tab0_4 code sif_n FU 24 115 sif_e := by
  intro args os t h
  unfold sif_e at h
  split at h
  · rename_i os0 a0 a1
    cases h
    exact ⟨_, _, fun p => (.int .i64 p), sif_k, ids_all rfl, fun _ _ => rfl, (congrFun (congrFun sif_q _) _), fun sv os p hp => by
      unfold sif_k at hp
      split at hp
      · have hp := dTy_ok hp
        split at hp
        · cases hp; exact ⟨rfl, rfl⟩
        · cases hp
      · cases hp⟩
  · cases h
/-! strings.IndexFunc -/
noncomputable def sIf (a0 : List UInt8) : Option (Int) :=
((sif a0 true).bind fun x0 =>
(some (x0)))
noncomputable def sIf_e : List SV → Objs → Option ((β : Type) → (SV → Objs → Option β) → Option β)
  | [.a (.v (.str a0)), .clo 71 [] []], os => some fun _ K => (sIf a0).bind fun p => K (.a (.v (.int .i64 p))) os
  | _, _ => none
noncomputable def sIf_k (sv : SV) (os : Objs) : Option (Int) := match sv, os with
  | .a (.v v), [] => dTy (.t1 (.k (.int .i64))) v fun v => (match v with | (.int .i64 r0) => some (r0) | _ => none)
  | _, _ => none
noncomputable def sIf_n : FuncId → Nat → Ann := fun f n => match f, n with
  | _, _ => ⟨[], [], false⟩
theorem sIf_q : (fun (a0 : List UInt8) => stN tab0_5 code sIf_n FU 24 96 [.a (.v (.str a0)), .clo 71 [] []] [] sIf_k) = (fun (a0 : List UInt8) => sIf a0) := by kernel_rfl
noncomputable def tab0_6 : ToldK := addTo tab0_5 96 sIf_e
theorem sIf_h : EntryOK tab0_5 code sIf_n FU 24 96 sIf_e := by
  intro args os t h
  unfold sIf_e at h
  split at h
  · rename_i os0 a0
    cases h
    exact ⟨_, _, fun p => (.int .i64 p), sIf_k, ids_all rfl, fun _ _ => rfl, (congrFun sIf_q _), fun sv os p hp => by
      unfold sIf_k at hp
      split at hp
      · have hp := dTy_ok hp
        split at hp
        · cases hp; exact ⟨rfl, rfl⟩
        · cases hp
      · cases hp⟩
  · cases h
/-! strings.ContainsFunc -/
noncomputable def scf (a0 : List UInt8) : Option (Bool) :=
((sIf a0).bind fun x0 =>
(some ((decide (x0 ≥ 0)))))
noncomputable def scf_e : List SV → Objs → Option ((β : Type) → (SV → Objs → Option β) → Option β)
  | [.a (.v (.str a0)), .clo 71 [] []], os => some fun _ K => (scf a0).bind fun p => K (.a (.v (.bool p))) os
  | _, _ => none
noncomputable def scf_k (sv : SV) (os : Objs) : Option (Bool) := match sv, os with
  | .a (.v v), [] => dTy (.t1 (.k .bool)) v fun v => (match v with | (.bool r0) => some (r0) | _ => none)
  | _, _ => none
noncomputable def scf_n : FuncId → Nat → Ann := fun f n => match f, n with
  | _, _ => ⟨[], [], false⟩
theorem scf_q : (fun (a0 : List UInt8) => stN tab0_6 code scf_n FU 24 70 [.a (.v (.str a0)), .clo 71 [] []] [] scf_k) = (fun (a0 : List UInt8) => scf a0) := by kernel_rfl
noncomputable def tab0_7 : ToldK := addTo tab0_6 70 scf_e
theorem scf_h : EntryOK tab0_6 code scf_n FU 24 70 scf_e := by
  intro args os t h
  unfold scf_e at h
  split at h
  · rename_i os0 a0
    cases h
    exact ⟨_, _, fun p => (.bool p), scf_k, ids_all rfl, fun _ _ => rfl, (congrFun scf_q _), fun sv os p hp => by
      unfold scf_k at hp
      split at hp
      · have hp := dTy_ok hp
        split at hp
        · cases hp; exact ⟨rfl, rfl⟩
        · cases hp
      · cases hp⟩
  · cases h
/-! cubit/rows.Parse -/
noncomputable def rparse_L0 (v : Vs) : Option (Vs ⊕ Vs) := sel v.1 [((asSl? (hV v.2 0)).bind fun x1 =>
((asInt? .i64 (hV v.2 1)).bind fun x2 =>
((asInt? .i64 (hV v.2 2)).bind fun x3 =>
(cond (decide (x3 < x2))
((idxL (x1.getD []) x3).bind fun x4 =>
((asStr? x4).bind fun x5 =>
((rwords x5).bind fun x6 =>
((scf x5).bind fun x7 =>
(cond x7
(cond x7
(some (.inr (0, [(.v (.int .i64 (IntKind.wrap .i64 (x3 + 1)))), (.v (.int .i64 2))])))
(cond (((slLen x6 : Nat) : Int) == 0)
(some (.inl (0, [(.v (.sl x1)), (.v (.int .i64 x2)), (.v (.int .i64 (IntKind.wrap .i64 (x3 + 1))))])))
(some (.inl (1, [(.v (.sl x1)), (.v (.int .i64 x2)), (.v (.int .i64 (IntKind.wrap .i64 (x3 + 1)))), (.l [(.agg [(.int .i64 (IntKind.wrap .i64 (x3 + 1))), (.sl x6)])])])))))
(cond (decide (((slLen x6 : Nat) : Int) > 24))
(some (.inr (0, [(.v (.int .i64 (IntKind.wrap .i64 (x3 + 1)))), (.v (.int .i64 2))])))
(cond (((slLen x6 : Nat) : Int) == 0)
(some (.inl (0, [(.v (.sl x1)), (.v (.int .i64 x2)), (.v (.int .i64 (IntKind.wrap .i64 (x3 + 1))))])))
(some (.inl (1, [(.v (.sl x1)), (.v (.int .i64 x2)), (.v (.int .i64 (IntKind.wrap .i64 (x3 + 1)))), (.l [(.agg [(.int .i64 (IntKind.wrap .i64 (x3 + 1))), (.sl x6)])])]))))))))))
(some (.inr (1, []))))))),
((asSl? (hV v.2 0)).bind fun x8 =>
((asInt? .i64 (hV v.2 1)).bind fun x9 =>
((asInt? .i64 (hV v.2 2)).bind fun x10 =>
(cond (decide (x10 < x9))
((idxL (x8.getD []) x10).bind fun x11 =>
((asStr? x11).bind fun x12 =>
((rwords x12).bind fun x13 =>
((scf x12).bind fun x14 =>
(cond x14
(cond x14
(some (.inr (0, [(.v (.int .i64 (IntKind.wrap .i64 (x10 + 1)))), (.v (.int .i64 2))])))
(cond (((slLen x13 : Nat) : Int) == 0)
(some (.inl (1, [(.v (.sl x8)), (.v (.int .i64 x9)), (.v (.int .i64 (IntKind.wrap .i64 (x10 + 1)))), (.l (hL v.2 3))])))
(cond ((((hL v.2 3).length : Nat) : Int) == 2000)
(some (.inr (0, [(.v (.int .i64 (IntKind.wrap .i64 (x10 + 1)))), (.v (.int .i64 11))])))
(chk ((fits ((hL v.2 3).length + 1)) && true)
(some (.inl (1, [(.v (.sl x8)), (.v (.int .i64 x9)), (.v (.int .i64 (IntKind.wrap .i64 (x10 + 1)))), (.l ((hL v.2 3) ++ [(.agg [(.int .i64 (IntKind.wrap .i64 (x10 + 1))), (.sl x13)])] : List V))])))))))
(cond (decide (((slLen x13 : Nat) : Int) > 24))
(some (.inr (0, [(.v (.int .i64 (IntKind.wrap .i64 (x10 + 1)))), (.v (.int .i64 2))])))
(cond (((slLen x13 : Nat) : Int) == 0)
(some (.inl (1, [(.v (.sl x8)), (.v (.int .i64 x9)), (.v (.int .i64 (IntKind.wrap .i64 (x10 + 1)))), (.l (hL v.2 3))])))
(cond ((((hL v.2 3).length : Nat) : Int) == 2000)
(some (.inr (0, [(.v (.int .i64 (IntKind.wrap .i64 (x10 + 1)))), (.v (.int .i64 11))])))
(chk ((fits ((hL v.2 3).length + 1)) && true)
(some (.inl (1, [(.v (.sl x8)), (.v (.int .i64 x9)), (.v (.int .i64 (IntKind.wrap .i64 (x10 + 1)))), (.l ((hL v.2 3) ++ [(.agg [(.int .i64 (IntKind.wrap .i64 (x10 + 1))), (.sl x13)])] : List V))]))))))))))))
(some (.inr (2, [(.l (hL v.2 3))])))))))]
noncomputable def rparse (a0 : List UInt8) : Option (Option (List V) × Int × Int) :=
(cond (decide ((((a0 : List UInt8).length : Nat) : Int) > 65536))
(some (none, 0, 11))
((spl a0 [10]).bind fun x0 =>
((loopK rparse_L0 FU (0, [(.v (.sl x0)), (.v (.int .i64 ((slLen x0 : Nat) : Int))), (.v (.int .i64 0))])).bind fun x15 => sel x15.1 [((asInt? .i64 (hV x15.2 0)).bind fun x16 =>
((asInt? .i64 (hV x15.2 1)).bind fun x17 =>
(some (none, x16, x17)))),
(some (none, 0, 0)),
(some ((some (hL x15.2 0)), 0, 0))])))
noncomputable def rparse_e : List SV → Objs → Option ((β : Type) → (SV → Objs → Option β) → Option β)
  | [.a (.v (.str a0))], os => some fun _ K => (rparse a0).bind fun p => K (.a (.v (.tup [(.sl p.1), (.int .i64 p.2.1), (.int .i64 p.2.2)]))) os
  | _, _ => none
noncomputable def rparse_k (sv : SV) (os : Objs) : Option (Option (List V) × Int × Int) := match sv, os with
  | .a (.v v), [] => dTy (.tup [(.k .sl), (.k (.int .i64)), (.k (.int .i64))]) v fun v => (match v with | (.tup [(.sl r0), (.int .i64 r1), (.int .i64 r2)]) => some (r0, r1, r2) | _ => none)
  | _, _ => none
noncomputable def rparse_n : FuncId → Nat → Ann := fun f n => match f, n with
  | 40, 0 => ⟨[(18, (.t1 (.k .str)))], [⟨[⟨[.u, .u, .u, .u, .u, .a (.nil), .u, .u, .u, .u, .u, .u, .u, .a (.h (.t1 (.k .sl))), .a (.h (.t1 (.k (.int .i64)))), .a (.h (.t1 (.k (.int .i64)))), .u, .u, .u, .u, .u, .u, .u, .u, .u, .u, .u, .u, .u, .u, .u, .u, .u, .u, .u, .u, .u, .u, .u, .u, .u, .u, .u, .u, .u, .u, .u, .u, .u], []⟩, ⟨[.u, .u, .u, .u, .u, .a (.own 0), .u, .u, .u, .u, .u, .u, .u, .a (.h (.t1 (.k .sl))), .a (.h (.t1 (.k (.int .i64)))), .a (.h (.t1 (.k (.int .i64)))), .u, .u, .u, .u, .u, .u, .u, .u, .u, .u, .u, .u, .u, .u, .u, .u, .u, .u, .u, .u, .u, .u, .u, .u, .u, .u, .u, .u, .u, .u, .u, .u, .u], [.ext 64 2]⟩], [(.ret, ⟨[.u, .u, .a (.nil), .a (.h (.t1 (.k (.int .i64)))), .a (.h (.t1 (.k (.int .i64)))), .u, .u, .u, .u, .u, .u, .u, .u, .u, .u, .u, .u, .u, .u, .u, .u, .u, .u, .u, .u, .u, .u, .u, .u, .u, .u, .u, .u, .u, .u, .u, .u, .u, .u, .u, .u, .u, .u, .u, .u, .u, .u, .u, .u], []⟩), ((.ex 0), ⟨[.u, .u, .u, .u, .u, .a (.nil), .u, .u, .u, .u, .u, .u, .u, .u, .u, .u, .u, .u, .u, .u, .u, .u, .u, .u, .u, .u, .u, .u, .u, .u, .u, .u, .u, .u, .u, .u, .u, .u, .u, .u, .u, .u, .u, .u, .u, .u, .u, .u, .u], []⟩), ((.ex 0), ⟨[.u, .u, .u, .u, .u, .a (.own 0), .u, .u, .u, .u, .u, .u, .u, .u, .u, .u, .u, .u, .u, .u, .u, .u, .u, .u, .u, .u, .u, .u, .u, .u, .u, .u, .u, .u, .u, .u, .u, .u, .u, .u, .u, .u, .u, .u, .u, .u, .u, .u, .u], [.ext 64 2]⟩)]⟩], false⟩
  | _, _ => ⟨[], [], false⟩
theorem rparse_q : (fun (a0 : List UInt8) => stN tab0_7 code rparse_n FU 24 40 [.a (.v (.str a0))] [] rparse_k) = (fun (a0 : List UInt8) => rparse a0) := by kernel_rfl
noncomputable def tab0_8 : ToldK := addTo tab0_7 40 rparse_e
theorem rparse_h : EntryOK tab0_7 code rparse_n FU 24 40 rparse_e := by
  intro args os t h
  unfold rparse_e at h
  split at h
  · rename_i os0 a0
    cases h
    exact ⟨_, _, fun p => (.tup [(.sl p.1), (.int .i64 p.2.1), (.int .i64 p.2.2)]), rparse_k, ids_all rfl, fun _ _ => rfl, (congrFun rparse_q _), fun sv os p hp => by
      unfold rparse_k at hp
      split at hp
      · have hp := dTy_ok hp
        split at hp
        · cases hp; exact ⟨rfl, rfl⟩
        · cases hp
      · cases hp⟩
  · cases h
/-! cubit/gender.cutLeft -/
noncomputable abbrev cutLeft := Go.Ev.cutLeft
noncomputable def cutLeft_e : List SV → Objs → Option ((β : Type) → (SV → Objs → Option β) → Option β)
  | [.a (.v (.str a0)), .a (.v (.str a1))], os => some fun _ K => (cutLeft a0 a1).bind fun p => K (.a (.v (.str p))) os
  | _, _ => none
noncomputable def cutLeft_k (sv : SV) (os : Objs) : Option (List UInt8) := match sv, os with
  | .a (.v v), [] => dTy (.t1 (.k .str)) v fun v => (match v with | (.str r0) => some (r0) | _ => none)
  | _, _ => none
noncomputable def cutLeft_n : FuncId → Nat → Ann := fun f n => match f, n with
  | 90, 0 => ⟨[], [⟨[⟨[.a (.h (.t1 (.k .str))), .a (.h (.t1 (.k .str))), .u, .u, .u, .u, .u, .u, .u, .u, .u, .a (.itr 0), .u, .u, .u, .u, .u, .u, .u, .u, .u, .u, .u, .u, .u, .u, .u, .u, .u, .u, .u, .u], [.iter]⟩], [(.ret, ⟨[.u, .u, .u, .u, .a (.h (.t1 (.k .str))), .u, .u, .u, .u, .u, .u, .u, .u, .u, .u, .u, .u, .u, .u, .u, .u, .u, .u, .u, .u, .u, .u, .u, .u, .u, .u, .u], []⟩), ((.ex 0), ⟨[.u, .u, .u, .u, .u, .u, .u, .u, .u, .u, .u, .u, .u, .u, .u, .u, .u, .u, .u, .u, .u, .u, .u, .u, .u, .u, .u, .u, .u, .u, .u, .u], []⟩)]⟩, ⟨[⟨[.a (.h (.t1 (.k .str))), .a (.h (.t1 (.k .str))), .u, .u, .u, .a (.h (.t1 (.k (.int .i64)))), .a (.h (.t1 (.k (.int .i32)))), .a (.h (.t1 (.k .bool))), .u, .u, .u, .a (.itr 0), .u, .u, .u, .u, .u, .a (.itr 1), .u, .u, .u, .u, .u, .u, .u, .u, .u, .u, .u, .u, .u, .u], [.iter, .iter]⟩], [((.ex 2), ⟨[.a (.h (.t1 (.k .str))), .a (.h (.t1 (.k .str))), .u, .u, .u, .a (.h (.t1 (.k (.int .i64)))), .u, .a (.h (.t1 (.k .bool))), .u, .u, .u, .a (.itr 0), .u, .u, .u, .u, .u, .u, .u, .u, .u, .u, .u, .u, .u, .u, .u, .u, .u, .u, .u, .u], [.iter]⟩)]⟩], false⟩
  | _, _ => ⟨[], [], false⟩
theorem cutLeft_q : (fun (a0 : List UInt8) (a1 : List UInt8) => stN tab0_8 code cutLeft_n FU 24 90 [.a (.v (.str a0)), .a (.v (.str a1))] [] cutLeft_k) = (fun (a0 : List UInt8) (a1 : List UInt8) => cutLeft a0 a1) := by kernel_rfl
noncomputable def tab0_9 : ToldK := addTo tab0_8 90 cutLeft_e
theorem cutLeft_h : EntryOK tab0_8 code cutLeft_n FU 24 90 cutLeft_e := by
  intro args os t h
  unfold cutLeft_e at h
  split at h
  · rename_i os0 a0 a1
    cases h
    exact ⟨_, _, fun p => (.str p), cutLeft_k, ids_all rfl, fun _ _ => rfl, (congrFun (congrFun cutLeft_q _) _), fun sv os p hp => by
      unfold cutLeft_k at hp
      split at hp
      · have hp := dTy_ok hp
        split at hp
        · cases hp; exact ⟨rfl, rfl⟩
        · cases hp
      · cases hp⟩
  · cases h
/-! cubit/gender.cutRight -/
noncomputable abbrev cutRight := Go.Ev.cutRight
noncomputable def cutRight_e : List SV → Objs → Option ((β : Type) → (SV → Objs → Option β) → Option β)
  | [.a (.v (.str a0)), .a (.v (.str a1))], os => some fun _ K => (cutRight a0 a1).bind fun p => K (.a (.v (.str p))) os
  | _, _ => none
noncomputable def cutRight_k (sv : SV) (os : Objs) : Option (List UInt8) := match sv, os with
  | .a (.v v), [] => dTy (.t1 (.k .str)) v fun v => (match v with | (.str r0) => some (r0) | _ => none)
  | _, _ => none
noncomputable def cutRight_n : FuncId → Nat → Ann := fun f n => match f, n with
  | 89, 0 => ⟨[], [⟨[⟨[.a (.h (.t1 (.k .str))), .a (.h (.t1 (.k .str))), .u, .u, .u, .u, .u, .u, .u, .u, .u, .u, .u, .u, .u, .u, .u, .u, .u, .u, .u, .u, .u, .u, .u, .u, .u, .u, .u, .u, .u, .u, .u, .u, .u, .u, .u, .u, .u], []⟩], [(.ret, ⟨[.u, .u, .u, .u, .a (.h (.t1 (.k .str))), .u, .u, .u, .u, .u, .u, .u, .u, .u, .u, .u, .u, .u, .u, .u, .u, .u, .u, .u, .u, .u, .u, .u, .u, .u, .u, .u, .u, .u, .u, .u, .u, .u, .u], []⟩), ((.ex 0), ⟨[.a (.h (.t1 (.k .str))), .u, .u, .u, .u, .u, .u, .u, .u, .u, .u, .u, .u, .u, .u, .u, .u, .u, .u, .u, .u, .u, .u, .u, .u, .u, .u, .u, .u, .u, .u, .u, .u, .u, .u, .u, .u, .u, .u], []⟩)]⟩, ⟨[⟨[.a (.h (.t1 (.k .str))), .a (.h (.t1 (.k .str))), .u, .u, .u, .a (.h (.t1 (.k (.int .i32)))), .a (.h (.t1 (.k (.int .i64)))), .a (.h (.t1 (.k .bool))), .u, .u, .u, .u, .u, .u, .u, .u, .u, .u, .u, .a (.itr 0), .u, .u, .u, .u, .u, .u, .u, .u, .u, .u, .u, .u, .u, .u, .u, .u, .u, .u, .u], [.iter]⟩], [((.ex 2), ⟨[.a (.h (.t1 (.k .str))), .a (.h (.t1 (.k .str))), .u, .u, .u, .u, .a (.h (.t1 (.k (.int .i64)))), .a (.h (.t1 (.k .bool))), .u, .u, .u, .u, .u, .u, .u, .u, .u, .u, .u, .u, .u, .u, .u, .u, .u, .u, .u, .u, .u, .u, .u, .u, .u, .u, .u, .u, .u, .u, .u], []⟩)]⟩], false⟩
  | _, _ => ⟨[], [], false⟩
theorem cutRight_q : (fun (a0 : List UInt8) (a1 : List UInt8) => stN tab0_9 code cutRight_n FU 24 89 [.a (.v (.str a0)), .a (.v (.str a1))] [] cutRight_k) = (fun (a0 : List UInt8) (a1 : List UInt8) => cutRight a0 a1) := by kernel_rfl
noncomputable def tab0_10 : ToldK := addTo tab0_9 89 cutRight_e
theorem cutRight_h : EntryOK tab0_9 code cutRight_n FU 24 89 cutRight_e := by
  intro args os t h
  unfold cutRight_e at h
  split at h
  · rename_i os0 a0 a1
    cases h
    exact ⟨_, _, fun p => (.str p), cutRight_k, ids_all rfl, fun _ _ => rfl, (congrFun (congrFun cutRight_q _) _), fun sv os p hp => by
      unfold cutRight_k at hp
      split at hp
      · have hp := dTy_ok hp
        split at hp
        · cases hp; exact ⟨rfl, rfl⟩
        · cases hp
      · cases hp⟩
  · cases h
/-! cubit/gender.of -/
noncomputable abbrev gof := Go.Ev.gof
noncomputable def gof_e : List SV → Objs → Option ((β : Type) → (SV → Objs → Option β) → Option β)
  | [.a (.v (.str a0)), .a (.v (.str a1))], os => some fun _ K => (gof a0 a1).bind fun p => K (.a (.v (.bool p))) os
  | _, _ => none
noncomputable def gof_k (sv : SV) (os : Objs) : Option (Bool) := match sv, os with
  | .a (.v v), [] => dTy (.t1 (.k .bool)) v fun v => (match v with | (.bool r0) => some (r0) | _ => none)
  | _, _ => none
noncomputable def gof_n : FuncId → Nat → Ann := fun f n => match f, n with
  | _, _ => ⟨[], [], false⟩
theorem gof_q : (fun (a0 : List UInt8) (a1 : List UInt8) => stN tab0_10 code gof_n FU 24 60 [.a (.v (.str a0)), .a (.v (.str a1))] [] gof_k) = (fun (a0 : List UInt8) (a1 : List UInt8) => gof a0 a1) := by kernel_rfl
noncomputable def tab0_11 : ToldK := addTo tab0_10 60 gof_e
theorem gof_h : EntryOK tab0_10 code gof_n FU 24 60 gof_e := by
  intro args os t h
  unfold gof_e at h
  split at h
  · rename_i os0 a0 a1
    cases h
    exact ⟨_, _, fun p => (.bool p), gof_k, ids_all rfl, fun _ _ => rfl, (congrFun (congrFun gof_q _) _), fun sv os p hp => by
      unfold gof_k at hp
      split at hp
      · have hp := dTy_ok hp
        split at hp
        · cases hp; exact ⟨rfl, rfl⟩
        · cases hp
      · cases hp⟩
  · cases h
/-! cubit/rows.Of -/
noncomputable abbrev rowsOf := Go.Ev.rowsOf
noncomputable def rowsOf_e : List SV → Objs → Option ((β : Type) → (SV → Objs → Option β) → Option β)
  | [.a (.v (.sl a0)), .a (.v (.str a1))], os => some fun _ K => (rowsOf a0 a1).bind fun p => K (.a (.v (.sl p))) os
  | _, _ => none
noncomputable def rowsOf_k (sv : SV) (os : Objs) : Option (Option (List V)) := match sv, os with
  | .a (.v v), [] => dTy (.t1 (.k .sl)) v fun v => (match v with | (.sl r0) => some (r0) | _ => none)
  | _, _ => none
noncomputable def rowsOf_n : FuncId → Nat → Ann := fun f n => match f, n with
  | 25, 0 => ⟨[(12, (.t1 (.agg [(.int .i64), .sl]))), (21, (.t1 (.k .str)))], [⟨[⟨[.u, .a (.h (.t1 (.k .str))), .u, .u, .u, .a (.nil), .u, .u, .a (.h (.t1 (.k .sl))), .a (.h (.t1 (.k (.int .i64)))), .a (.h (.t1 (.k (.int .i64)))), .u, .u, .u, .u, .u, .u, .u, .u, .u, .u, .u, .u, .u, .u, .u, .u, .u, .u, .u, .u, .u, .u, .u, .u, .u, .u], []⟩, ⟨[.u, .a (.h (.t1 (.k .str))), .u, .u, .u, .a (.own 0), .u, .u, .a (.h (.t1 (.k .sl))), .a (.h (.t1 (.k (.int .i64)))), .a (.h (.t1 (.k (.int .i64)))), .u, .u, .u, .u, .u, .u, .u, .u, .u, .u, .u, .u, .u, .u, .u, .u, .u, .u, .u, .u, .u, .u, .u, .u, .u, .u], [.ext 64 2]⟩], [((.ex 0), ⟨[.u, .u, .u, .u, .u, .a (.nil), .u, .u, .u, .u, .u, .u, .u, .u, .u, .u, .u, .u, .u, .u, .u, .u, .u, .u, .u, .u, .u, .u, .u, .u, .u, .u, .u, .u, .u, .u, .u], []⟩), ((.ex 0), ⟨[.u, .u, .u, .u, .u, .a (.own 0), .u, .u, .u, .u, .u, .u, .u, .u, .u, .u, .u, .u, .u, .u, .u, .u, .u, .u, .u, .u, .u, .u, .u, .u, .u, .u, .u, .u, .u, .u, .u], [.ext 64 2]⟩)]⟩], false⟩
  | _, _ => ⟨[], [], false⟩
theorem rowsOf_q : (fun (a0 : Option (List V)) (a1 : List UInt8) => stN tab0_11 code rowsOf_n FU 24 25 [.a (.v (.sl a0)), .a (.v (.str a1))] [] rowsOf_k) = (fun (a0 : Option (List V)) (a1 : List UInt8) => rowsOf a0 a1) := by kernel_rfl
noncomputable def tab0_12 : ToldK := addTo tab0_11 25 rowsOf_e
theorem rowsOf_h : EntryOK tab0_11 code rowsOf_n FU 24 25 rowsOf_e := by
  intro args os t h
  unfold rowsOf_e at h
  split at h
  · rename_i os0 a0 a1
    cases h
    exact ⟨_, _, fun p => (.sl p), rowsOf_k, ids_all rfl, fun _ _ => rfl, (congrFun (congrFun rowsOf_q _) _), fun sv os p hp => by
      unfold rowsOf_k at hp
      split at hp
      · have hp := dTy_ok hp
        split at hp
        · cases hp; exact ⟨rfl, rfl⟩
        · cases hp
      · cases hp⟩
  · cases h
/-! cubit/gender.Load -/
noncomputable abbrev gload := Go.Ev.gload
noncomputable def gload_e : List SV → Objs → Option ((β : Type) → (SV → Objs → Option β) → Option β)
  | [.a (.v (.sl a0))], os => some fun _ K => (gload a0).bind fun p => K (.a (.v (.tup [(.pt p.1), (.int .i64 p.2.1), (.int .i64 p.2.2)]))) os
  | _, _ => none
noncomputable def gload_k (sv : SV) (os : Objs) : Option (Option (List V) × Int × Int) := match sv, os with
  | .a (.v v), [] => dTy (.tup [(.k .pt), (.k (.int .i64)), (.k (.int .i64))]) v fun v => (match v with | (.tup [(.pt r0), (.int .i64 r1), (.int .i64 r2)]) => some (r0, r1, r2) | _ => none)
  | _, _ => none
noncomputable def gload_n : FuncId → Nat → Ann := fun f n => match f, n with
  | 13, 0 => ⟨[(17, (.t1 (.agg [(.int .i64), .sl])))], [⟨[⟨[.u, .u, .u, .u, .u, .a (.loc 0 0), .u, .u, .u, .u, .u, .u, .u, .a (.h (.t1 (.k .sl))), .a (.h (.t1 (.k (.int .i64)))), .a (.h (.t1 (.k (.int .i64)))), .u, .u, .u, .u, .u, .u, .u, .u, .u, .u, .u, .u, .u, .u, .u], [.box 73 [.mapr 1], .map]⟩], [(.ret, ⟨[.u, .u, .a (.np), .a (.h (.t1 (.k (.int .i64)))), .a (.h (.t1 (.k (.int .i64)))), .u, .u, .u, .u, .u, .u, .u, .u, .u, .u, .u, .u, .u, .u, .u, .u, .u, .u, .u, .u, .u, .u, .u, .u, .u, .u], []⟩), ((.ex 0), ⟨[.u, .u, .u, .u, .u, .a (.loc 0 0), .u, .u, .u, .u, .u, .u, .u, .u, .u, .u, .u, .u, .u, .u, .u, .u, .u, .u, .u, .u, .u, .u, .u, .u, .u], [.box 73 [.mapr 1], .map]⟩)]⟩], true⟩
  | 26, 3 => ⟨[(11, (.t1 (.k .str))), (18, (.t1 (.k .str))), (25, (.t1 (.k .str))), (32, (.t1 (.k .str))), (39, (.t1 (.k .str))), (45, (.t1 (.k .str))), (48, (.t1 (.k .str))), (56, (.t1 (.k .str))), (64, (.t1 (.k .str)))], [], false⟩
  | _, _ => ⟨[], [], false⟩
theorem gload_q : (fun (a0 : Option (List V)) => stN tab0_12 code gload_n FU 24 13 [.a (.v (.sl a0))] [] gload_k) = (fun (a0 : Option (List V)) => gload a0) := by kernel_rfl
noncomputable def tab0_13 : ToldK := addTo tab0_12 13 gload_e
theorem gload_h : EntryOK tab0_12 code gload_n FU 24 13 gload_e := by
  intro args os t h
  unfold gload_e at h
  split at h
  · rename_i os0 a0
    cases h
    exact ⟨_, _, fun p => (.tup [(.pt p.1), (.int .i64 p.2.1), (.int .i64 p.2.2)]), gload_k, ids_all rfl, fun _ _ => rfl, (congrFun gload_q _), fun sv os p hp => by
      unfold gload_k at hp
      split at hp
      · have hp := dTy_ok hp
        split at hp
        · cases hp; exact ⟨rfl, rfl⟩
        · cases hp
      · cases hp⟩
  · cases h
/-! (*cubit/gender.Genders).Atom -/
noncomputable abbrev gatom := Go.Ev.gatom
noncomputable def gatom_e : List SV → Objs → Option ((β : Type) → (SV → Objs → Option β) → Option β)
  | [.a (.v (.pt a0)), .a (.v (.str a1)), .a (.v (.agg [(.str a2), (.str a3), (.int .i64 a4)]))], os => some fun _ K => (gatom a0 a1 a2 a3 a4).bind fun p => K (.a (.v (.str p))) os
  | _, _ => none
noncomputable def gatom_k (sv : SV) (os : Objs) : Option (List UInt8) := match sv, os with
  | .a (.v v), [] => dTy (.t1 (.k .str)) v fun v => (match v with | (.str r0) => some (r0) | _ => none)
  | _, _ => none
noncomputable def gatom_n : FuncId → Nat → Ann := fun f n => match f, n with
  | 39, 0 => ⟨[(8, (.ptr [.mp])), (9, (.ptr [.mp])), (15, (.t1 (.k .str)))], [], false⟩
  | _, _ => ⟨[], [], false⟩
theorem gatom_q : (fun (a0 : Option (List V)) (a1 : List UInt8) (a2 : List UInt8) (a3 : List UInt8) (a4 : Int) => stN tab0_13 code gatom_n FU 24 39 [.a (.v (.pt a0)), .a (.v (.str a1)), .a (.v (.agg [(.str a2), (.str a3), (.int .i64 a4)]))] [] gatom_k) = (fun (a0 : Option (List V)) (a1 : List UInt8) (a2 : List UInt8) (a3 : List UInt8) (a4 : Int) => gatom a0 a1 a2 a3 a4) := by kernel_rfl
noncomputable def tab0_14 : ToldK := addTo tab0_13 39 gatom_e
theorem gatom_h : EntryOK tab0_13 code gatom_n FU 24 39 gatom_e := by
  intro args os t h
  unfold gatom_e at h
  split at h
  · rename_i os0 a0 a1 a2 a3 a4
    cases h
    exact ⟨_, _, fun p => (.str p), gatom_k, ids_all rfl, fun _ _ => rfl, (congrFun (congrFun (congrFun (congrFun (congrFun gatom_q _) _) _) _) _), fun sv os p hp => by
      unfold gatom_k at hp
      split at hp
      · have hp := dTy_ok hp
        split at hp
        · cases hp; exact ⟨rfl, rfl⟩
        · cases hp
      · cases hp⟩
  · cases h
/-! cubit/compose.Name -/
noncomputable abbrev cname := Go.Ev.cname
noncomputable def cname_e : List SV → Objs → Option ((β : Type) → (SV → Objs → Option β) → Option β)
  | [.a (.v (.str a0))], os => some fun _ K => (cname a0).bind fun p => K (.a (.v (.str p))) os
  | _, _ => none
noncomputable def cname_k (sv : SV) (os : Objs) : Option (List UInt8) := match sv, os with
  | .a (.v v), [] => dTy (.t1 (.k .str)) v fun v => (match v with | (.str r0) => some (r0) | _ => none)
  | _, _ => none
noncomputable def cname_n : FuncId → Nat → Ann := fun f n => match f, n with
  | 42, 0 => ⟨[], [⟨[⟨[.a (.h (.t1 (.k .str))), .a (.h (.t1 (.k (.int .u8)))), .u, .u, .u, .u, .u, .u, .u, .u, .u, .u, .u, .u, .u, .u, .u, .u, .u, .u, .u, .u, .u], []⟩], [((.ex 0), ⟨[.a (.h (.t1 (.k .str))), .u, .u, .u, .u, .u, .u, .u, .u, .u, .u, .u, .u, .u, .u, .u, .u, .u, .u, .u, .u, .u, .u], []⟩)]⟩], false⟩
  | 41, 0 => ⟨[], [⟨[⟨[.a (.h (.t1 (.k .str))), .a (.h (.t1 (.k (.int .u8)))), .u, .u, .u, .u, .u, .u, .u, .u, .u, .u, .u, .u, .u, .u, .u], []⟩], [((.ex 0), ⟨[.a (.h (.t1 (.k .str))), .u, .u, .u, .u, .u, .u, .u, .u, .u, .u, .u, .u, .u, .u, .u, .u], []⟩)]⟩], false⟩
  | _, _ => ⟨[], [], false⟩
theorem cname_q : (fun (a0 : List UInt8) => stN tab0_14 code cname_n FU 24 7 [.a (.v (.str a0))] [] cname_k) = (fun (a0 : List UInt8) => cname a0) := by kernel_rfl
noncomputable def tab0_15 : ToldK := addTo tab0_14 7 cname_e
theorem cname_h : EntryOK tab0_14 code cname_n FU 24 7 cname_e := by
  intro args os t h
  unfold cname_e at h
  split at h
  · rename_i os0 a0
    cases h
    exact ⟨_, _, fun p => (.str p), cname_k, ids_all rfl, fun _ _ => rfl, (congrFun cname_q _), fun sv os p hp => by
      unfold cname_k at hp
      split at hp
      · have hp := dTy_ok hp
        split at hp
        · cases hp; exact ⟨rfl, rfl⟩
        · cases hp
      · cases hp⟩
  · cases h
/-! cubit/pattern.Fill -/
noncomputable abbrev pfill := Go.Ev.pfill
noncomputable def pfill_e : List SV → Objs → Option ((β : Type) → (SV → Objs → Option β) → Option β)
  | [.a (.v (.str a0)), .a (.v (.sl a1))], os => some fun _ K => (pfill a0 a1).bind fun p => K (.a (.v (.str p))) os
  | _, _ => none
noncomputable def pfill_k (sv : SV) (os : Objs) : Option (List UInt8) := match sv, os with
  | .a (.v v), [] => dTy (.t1 (.k .str)) v fun v => (match v with | (.str r0) => some (r0) | _ => none)
  | _, _ => none
noncomputable def pfill_n : FuncId → Nat → Ann := fun f n => match f, n with
  | 67, 0 => ⟨[(58, (.t1 (.k .str)))], [⟨[⟨[.a (.h (.t1 (.k .str))), .a (.h (.t1 (.k .sl))), .u, .u, .u, .a (.loc 0 0), .a (.h (.t1 (.k (.int .i64)))), .u, .u, .u, .u, .u, .u, .u, .u, .u, .u, .u, .u, .u, .u, .u, .u, .u, .u, .u, .u, .u, .u, .u, .u, .u, .u, .u, .u, .u, .u, .u, .u, .u, .u, .u, .u, .u, .u, .u, .u, .u, .u, .u, .u, .u, .u, .u, .u, .u, .u, .u, .u, .u, .u, .u, .u, .u, .u, .u, .u, .u], [.box 101 [.np, .nil]]⟩, ⟨[.a (.h (.t1 (.k .str))), .a (.h (.t1 (.k .sl))), .u, .u, .u, .a (.loc 0 0), .a (.h (.t1 (.k (.int .i64)))), .u, .u, .u, .u, .u, .u, .u, .u, .u, .u, .u, .u, .u, .u, .u, .u, .u, .u, .u, .u, .u, .u, .u, .u, .u, .u, .u, .u, .u, .u, .u, .u, .u, .u, .u, .u, .u, .u, .u, .u, .u, .u, .u, .u, .u, .u, .u, .u, .u, .u, .u, .u, .u, .u, .u, .u, .u, .u, .u, .u, .u], [.box 101 [.loc 0 0, .nil]]⟩, ⟨[.a (.h (.t1 (.k .str))), .a (.h (.t1 (.k .sl))), .u, .u, .u, .a (.loc 0 0), .a (.h (.t1 (.k (.int .i64)))), .u, .u, .u, .u, .u, .u, .u, .u, .u, .u, .u, .u, .u, .u, .u, .u, .u, .u, .u, .u, .u, .u, .u, .u, .u, .u, .u, .u, .u, .u, .u, .u, .u, .u, .u, .u, .u, .u, .u, .u, .u, .u, .u, .u, .u, .u, .u, .u, .u, .u, .u, .u, .u, .u, .u, .u, .u, .u, .u, .u, .u], [.box 101 [.loc 0 0, .own 1], .ext 5 1]⟩], [((.ex 0), ⟨[.u, .u, .u, .u, .u, .a (.loc 0 0), .u, .u, .u, .u, .u, .u, .u, .u, .u, .u, .u, .u, .u, .u, .u, .u, .u, .u, .u, .u, .u, .u, .u, .u, .u, .u, .u, .u, .u, .u, .u, .u, .u, .u, .u, .u, .u, .u, .u, .u, .u, .u, .u, .u, .u, .u, .u, .u, .u, .u, .u, .u, .u, .u, .u, .u, .u, .u, .u, .u, .u, .u], [.box 101 [.np, .nil]]⟩), ((.ex 0), ⟨[.u, .u, .u, .u, .u, .a (.loc 0 0), .u, .u, .u, .u, .u, .u, .u, .u, .u, .u, .u, .u, .u, .u, .u, .u, .u, .u, .u, .u, .u, .u, .u, .u, .u, .u, .u, .u, .u, .u, .u, .u, .u, .u, .u, .u, .u, .u, .u, .u, .u, .u, .u, .u, .u, .u, .u, .u, .u, .u, .u, .u, .u, .u, .u, .u, .u, .u, .u, .u, .u, .u], [.box 101 [.loc 0 0, .nil]]⟩), ((.ex 0), ⟨[.u, .u, .u, .u, .u, .a (.loc 0 0), .u, .u, .u, .u, .u, .u, .u, .u, .u, .u, .u, .u, .u, .u, .u, .u, .u, .u, .u, .u, .u, .u, .u, .u, .u, .u, .u, .u, .u, .u, .u, .u, .u, .u, .u, .u, .u, .u, .u, .u, .u, .u, .u, .u, .u, .u, .u, .u, .u, .u, .u, .u, .u, .u, .u, .u, .u, .u, .u, .u, .u, .u], [.box 101 [.loc 0 0, .own 1], .ext 5 1]⟩)]⟩], false⟩
  | _, _ => ⟨[], [], false⟩
theorem pfill_q : (fun (a0 : List UInt8) (a1 : Option (List V)) => stN tab0_15 code pfill_n FU 24 67 [.a (.v (.str a0)), .a (.v (.sl a1))] [] pfill_k) = (fun (a0 : List UInt8) (a1 : Option (List V)) => pfill a0 a1) := by kernel_rfl
noncomputable def tab0_16 : ToldK := addTo tab0_15 67 pfill_e
theorem pfill_h : EntryOK tab0_15 code pfill_n FU 24 67 pfill_e := by
  intro args os t h
  unfold pfill_e at h
  split at h
  · rename_i os0 a0 a1
    cases h
    exact ⟨_, _, fun p => (.str p), pfill_k, ids_all rfl, fun _ _ => rfl, (congrFun (congrFun pfill_q _) _), fun sv os p hp => by
      unfold pfill_k at hp
      split at hp
      · have hp := dTy_ok hp
        split at hp
        · cases hp; exact ⟨rfl, rfl⟩
        · cases hp
      · cases hp⟩
  · cases h
/-! cubit/pattern.Widths -/
noncomputable abbrev pwidths := Go.Ev.pwidths
noncomputable def pwidths_e : List SV → Objs → Option ((β : Type) → (SV → Objs → Option β) → Option β)
  | [.a (.v (.str a0))], os => some fun _ K => (pwidths a0).bind fun p => K (.a (.v (.sl p))) os
  | _, _ => none
noncomputable def pwidths_k (sv : SV) (os : Objs) : Option (Option (List V)) := match sv, os with
  | .a (.v v), [] => dTy (.t1 (.k .sl)) v fun v => (match v with | (.sl r0) => some (r0) | _ => none)
  | _, _ => none
noncomputable def pwidths_n : FuncId → Nat → Ann := fun f n => match f, n with
  | _, _ => ⟨[], [], false⟩
theorem pwidths_q : (fun (a0 : List UInt8) => stN tab0_16 code pwidths_n FU 24 28 [.a (.v (.str a0))] [] pwidths_k) = (fun (a0 : List UInt8) => pwidths a0) := by kernel_rfl
noncomputable def tab0_17 : ToldK := addTo tab0_16 28 pwidths_e
theorem pwidths_h : EntryOK tab0_16 code pwidths_n FU 24 28 pwidths_e := by
  intro args os t h
  unfold pwidths_e at h
  split at h
  · rename_i os0 a0
    cases h
    exact ⟨_, _, fun p => (.sl p), pwidths_k, ids_all rfl, fun _ _ => rfl, (congrFun pwidths_q _), fun sv os p hp => by
      unfold pwidths_k at hp
      split at hp
      · have hp := dTy_ok hp
        split at hp
        · cases hp; exact ⟨rfl, rfl⟩
        · cases hp
      · cases hp⟩
  · cases h
/-! cubit/pattern.cats -/
noncomputable abbrev pcats := Go.Ev.pcats
noncomputable def pcats_e : List SV → Objs → Option ((β : Type) → (SV → Objs → Option β) → Option β)
  | [.a (.v (.agg [(.str a0), (.str a1), (.str a2), (.str a3), (.str a4), (.str a5)]))], os => some fun _ K => (pcats a0 a1 a2 a3 a4 a5).bind fun p => K (.a (.v (.sl p))) os
  | _, _ => none
noncomputable def pcats_k (sv : SV) (os : Objs) : Option (Option (List V)) := match sv, os with
  | .a (.v v), [] => dTy (.t1 (.k .sl)) v fun v => (match v with | (.sl r0) => some (r0) | _ => none)
  | _, _ => none
noncomputable def pcats_n : FuncId → Nat → Ann := fun f n => match f, n with
  | _, _ => ⟨[], [], false⟩
theorem pcats_q : (fun (a0 : List UInt8) (a1 : List UInt8) (a2 : List UInt8) (a3 : List UInt8) (a4 : List UInt8) (a5 : List UInt8) => stN tab0_17 code pcats_n FU 24 29 [.a (.v (.agg [(.str a0), (.str a1), (.str a2), (.str a3), (.str a4), (.str a5)]))] [] pcats_k) = (fun (a0 : List UInt8) (a1 : List UInt8) (a2 : List UInt8) (a3 : List UInt8) (a4 : List UInt8) (a5 : List UInt8) => pcats a0 a1 a2 a3 a4 a5) := by kernel_rfl
noncomputable def tab0_18 : ToldK := addTo tab0_17 29 pcats_e
theorem pcats_h : EntryOK tab0_17 code pcats_n FU 24 29 pcats_e := by
  intro args os t h
  unfold pcats_e at h
  split at h
  · rename_i os0 a0 a1 a2 a3 a4 a5
    cases h
    exact ⟨_, _, fun p => (.sl p), pcats_k, ids_all rfl, fun _ _ => rfl, (congrFun (congrFun (congrFun (congrFun (congrFun (congrFun pcats_q _) _) _) _) _) _), fun sv os p hp => by
      unfold pcats_k at hp
      split at hp
      · have hp := dTy_ok hp
        split at hp
        · cases hp; exact ⟨rfl, rfl⟩
        · cases hp
      · cases hp⟩
  · cases h
/-! (*cubit/pattern.Words).Chain -/
noncomputable abbrev pchain := Go.Ev.pchain
noncomputable def pchain_e : List SV → Objs → Option ((β : Type) → (SV → Objs → Option β) → Option β)
  | [.a (.v (.pt a0)), .a (.v (.str a1))], os => some fun _ K => (pchain a0 a1).bind fun p => K (.a (.v (.sl p))) os
  | _, _ => none
noncomputable def pchain_k (sv : SV) (os : Objs) : Option (Option (List V)) := match sv, os with
  | .a (.v v), [] => dTy (.t1 (.k .sl)) v fun v => (match v with | (.sl r0) => some (r0) | _ => none)
  | _, _ => none
noncomputable def pchain_n : FuncId → Nat → Ann := fun f n => match f, n with
  | 27, 0 => ⟨[(14, (.ptr [.mp, .mp])), (15, (.ptr [.mp, .mp])), (18, (.tup [(.k .str), (.k .bool)]))], [⟨[⟨[.a (.h (.t1 (.k .pt))), .a (.h (.t1 (.k .str))), .u, .u, .u, .a (.nil), .a (.h (.t1 (.k .bool))), .u, .u, .u, .u, .u, .u, .u, .u, .u, .u, .u, .u, .u, .u, .u, .u, .u, .u, .u, .u, .u], []⟩, ⟨[.a (.h (.t1 (.k .pt))), .a (.h (.t1 (.k .str))), .u, .u, .u, .a (.own 0), .a (.h (.t1 (.k .bool))), .u, .u, .u, .u, .u, .u, .u, .u, .u, .u, .u, .u, .u, .u, .u, .u, .u, .u, .u, .u, .u], [.ext 9 1]⟩], [((.ex 0), ⟨[.u, .u, .u, .u, .u, .a (.nil), .u, .u, .u, .u, .u, .u, .u, .u, .u, .u, .u, .u, .u, .u, .u, .u, .u, .u, .u, .u, .u, .u], []⟩), ((.ex 0), ⟨[.u, .u, .u, .u, .u, .a (.own 0), .u, .u, .u, .u, .u, .u, .u, .u, .u, .u, .u, .u, .u, .u, .u, .u, .u, .u, .u, .u, .u, .u], [.ext 9 1]⟩)]⟩], false⟩
  | _, _ => ⟨[], [], false⟩
theorem pchain_q : (fun (a0 : Option (List V)) (a1 : List UInt8) => stN tab0_18 code pchain_n FU 24 27 [.a (.v (.pt a0)), .a (.v (.str a1))] [] pchain_k) = (fun (a0 : Option (List V)) (a1 : List UInt8) => pchain a0 a1) := by kernel_rfl
noncomputable def tab0_19 : ToldK := addTo tab0_18 27 pchain_e
theorem pchain_h : EntryOK tab0_18 code pchain_n FU 24 27 pchain_e := by
  intro args os t h
  unfold pchain_e at h
  split at h
  · rename_i os0 a0 a1
    cases h
    exact ⟨_, _, fun p => (.sl p), pchain_k, ids_all rfl, fun _ _ => rfl, (congrFun (congrFun pchain_q _) _), fun sv os p hp => by
      unfold pchain_k at hp
      split at hp
      · have hp := dTy_ok hp
        split at hp
        · cases hp; exact ⟨rfl, rfl⟩
        · cases hp
      · cases hp⟩
  · cases h
/-! (*cubit/pattern.Words).Find -/
noncomputable abbrev pfind := Go.Ev.pfind
noncomputable def pfind_e : List SV → Objs → Option ((β : Type) → (SV → Objs → Option β) → Option β)
  | [.a (.v (.pt a0)), .a (.v (.agg [(.str a1), (.str a2), (.str a3), (.str a4), (.str a5), (.str a6)]))], os => some fun _ K => (pfind a0 a1 a2 a3 a4 a5 a6).bind fun p => K (.a (.v (.tup [(.str p.1), (.bool p.2)]))) os
  | _, _ => none
noncomputable def pfind_k (sv : SV) (os : Objs) : Option (List UInt8 × Bool) := match sv, os with
  | .a (.v v), [] => dTy (.tup [(.k .str), (.k .bool)]) v fun v => (match v with | (.tup [(.str r0), (.bool r1)]) => some (r0, r1) | _ => none)
  | _, _ => none
noncomputable def pfind_n : FuncId → Nat → Ann := fun f n => match f, n with
  | 14, 0 => ⟨[(23, (.t1 (.k .str))), (31, (.t1 (.k .str))), (39, (.t1 (.k .str))), (46, (.t1 (.k .str))), (50, (.ptr [.mp, .mp])), (51, (.ptr [.mp, .mp])), (62, (.tup [(.k .str), (.k .bool)]))], [⟨[⟨[.a (.h (.t1 (.k .pt))), .u, .u, .a (.loc 0 0), .u, .u, .u, .u, .u, .u, .u, .u, .u, .u, .u, .u, .u, .u, .u, .a (.h (.t1 (.k .sl))), .a (.h (.t1 (.k (.int .i64)))), .a (.h (.t1 (.k (.int .i64)))), .u, .u, .u, .u, .u, .u, .u, .u, .u, .u, .u, .u, .u, .u, .u, .u, .u, .u, .u, .u, .u, .u, .u, .u, .u, .u, .u, .u, .u, .u, .u, .u, .u, .u, .u, .u, .u, .u, .u, .u, .u, .u, .u, .u, .u, .u, .u, .u, .u], [.box 46 [.h (.t1 (.k .str)), .h (.t1 (.k .str)), .h (.t1 (.k .str)), .h (.t1 (.k .str)), .h (.t1 (.k .str)), .h (.t1 (.k .str))]]⟩], [(.ret, ⟨[.u, .u, .u, .u, .a (.h (.t1 (.k .str))), .a (.h (.t1 (.k .bool))), .u, .u, .u, .u, .u, .u, .u, .u, .u, .u, .u, .u, .u, .u, .u, .u, .u, .u, .u, .u, .u, .u, .u, .u, .u, .u, .u, .u, .u, .u, .u, .u, .u, .u, .u, .u, .u, .u, .u, .u, .u, .u, .u, .u, .u, .u, .u, .u, .u, .u, .u, .u, .u, .u, .u, .u, .u, .u, .u, .u, .u, .u, .u, .u, .u], []⟩), ((.ex 0), ⟨[.u, .u, .u, .u, .u, .u, .u, .u, .u, .u, .u, .u, .u, .u, .u, .u, .u, .u, .u, .u, .u, .u, .u, .u, .u, .u, .u, .u, .u, .u, .u, .u, .u, .u, .u, .u, .u, .u, .u, .u, .u, .u, .u, .u, .u, .u, .u, .u, .u, .u, .u, .u, .u, .u, .u, .u, .u, .u, .u, .u, .u, .u, .u, .u, .u, .u, .u, .u, .u, .u, .u], []⟩)]⟩, ⟨[⟨[.a (.h (.t1 (.k .pt))), .u, .u, .a (.loc 0 0), .u, .u, .u, .a (.h (.t1 (.k .str))), .u, .u, .u, .u, .u, .u, .u, .u, .u, .u, .u, .a (.h (.t1 (.k .sl))), .a (.h (.t1 (.k (.int .i64)))), .a (.h (.t1 (.k (.int .i64)))), .u, .u, .u, .u, .u, .a (.h (.t1 (.k .sl))), .a (.h (.t1 (.k (.int .i64)))), .a (.h (.t1 (.k (.int .i64)))), .u, .u, .u, .u, .u, .u, .u, .u, .u, .u, .u, .u, .u, .u, .u, .u, .u, .u, .u, .u, .u, .u, .u, .u, .u, .u, .u, .u, .u, .u, .u, .u, .u, .u, .u, .u, .u, .u, .u, .u, .u], [.box 46 [.h (.t1 (.k .str)), .h (.t1 (.k .str)), .h (.t1 (.k .str)), .h (.t1 (.k .str)), .h (.t1 (.k .str)), .h (.t1 (.k .str))]]⟩], [(.ret, ⟨[.u, .u, .u, .u, .a (.h (.t1 (.k .str))), .a (.h (.t1 (.k .bool))), .u, .u, .u, .u, .u, .u, .u, .u, .u, .u, .u, .u, .u, .u, .u, .u, .u, .u, .u, .u, .u, .u, .u, .u, .u, .u, .u, .u, .u, .u, .u, .u, .u, .u, .u, .u, .u, .u, .u, .u, .u, .u, .u, .u, .u, .u, .u, .u, .u, .u, .u, .u, .u, .u, .u, .u, .u, .u, .u, .u, .u, .u, .u, .u, .u], []⟩), ((.ex 2), ⟨[.a (.h (.t1 (.k .pt))), .u, .u, .a (.loc 0 0), .u, .u, .u, .u, .u, .u, .u, .u, .u, .u, .u, .u, .u, .u, .u, .a (.h (.t1 (.k .sl))), .a (.h (.t1 (.k (.int .i64)))), .a (.h (.t1 (.k (.int .i64)))), .u, .u, .u, .u, .u, .u, .u, .u, .u, .u, .u, .u, .u, .u, .u, .u, .u, .u, .u, .u, .u, .u, .u, .u, .u, .u, .u, .u, .u, .u, .u, .u, .u, .u, .u, .u, .u, .u, .u, .u, .u, .u, .u, .u, .u, .u, .u, .u, .u], [.box 46 [.h (.t1 (.k .str)), .h (.t1 (.k .str)), .h (.t1 (.k .str)), .h (.t1 (.k .str)), .h (.t1 (.k .str)), .h (.t1 (.k .str))]]⟩)]⟩, ⟨[⟨[.a (.h (.t1 (.k .pt))), .u, .u, .a (.loc 0 0), .u, .u, .u, .a (.h (.t1 (.k .str))), .u, .a (.h (.t1 (.k .str))), .u, .u, .u, .u, .u, .u, .u, .u, .u, .a (.h (.t1 (.k .sl))), .a (.h (.t1 (.k (.int .i64)))), .a (.h (.t1 (.k (.int .i64)))), .u, .u, .u, .u, .u, .a (.h (.t1 (.k .sl))), .a (.h (.t1 (.k (.int .i64)))), .a (.h (.t1 (.k (.int .i64)))), .u, .u, .u, .u, .u, .a (.own 1), .a (.h (.t1 (.k (.int .i64)))), .a (.h (.t1 (.k (.int .i64)))), .u, .u, .u, .u, .u, .u, .u, .u, .u, .u, .u, .u, .u, .u, .u, .u, .u, .u, .u, .u, .u, .u, .u, .u, .u, .u, .u, .u, .u, .u, .u, .u, .u], [.box 46 [.h (.t1 (.k .str)), .h (.t1 (.k .str)), .h (.t1 (.k .str)), .h (.t1 (.k .str)), .h (.t1 (.k .str)), .h (.t1 (.k .str))], .ext 9 1]⟩], [(.ret, ⟨[.u, .u, .u, .u, .a (.h (.t1 (.k .str))), .a (.h (.t1 (.k .bool))), .u, .u, .u, .u, .u, .u, .u, .u, .u, .u, .u, .u, .u, .u, .u, .u, .u, .u, .u, .u, .u, .u, .u, .u, .u, .u, .u, .u, .u, .u, .u, .u, .u, .u, .u, .u, .u, .u, .u, .u, .u, .u, .u, .u, .u, .u, .u, .u, .u, .u, .u, .u, .u, .u, .u, .u, .u, .u, .u, .u, .u, .u, .u, .u, .u], []⟩), ((.ex 4), ⟨[.a (.h (.t1 (.k .pt))), .u, .u, .a (.loc 0 0), .u, .u, .u, .a (.h (.t1 (.k .str))), .u, .u, .u, .u, .u, .u, .u, .u, .u, .u, .u, .a (.h (.t1 (.k .sl))), .a (.h (.t1 (.k (.int .i64)))), .a (.h (.t1 (.k (.int .i64)))), .u, .u, .u, .u, .u, .a (.h (.t1 (.k .sl))), .a (.h (.t1 (.k (.int .i64)))), .a (.h (.t1 (.k (.int .i64)))), .u, .u, .u, .u, .u, .u, .u, .u, .u, .u, .u, .u, .u, .u, .u, .u, .u, .u, .u, .u, .u, .u, .u, .u, .u, .u, .u, .u, .u, .u, .u, .u, .u, .u, .u, .u, .u, .u, .u, .u, .u], [.box 46 [.h (.t1 (.k .str)), .h (.t1 (.k .str)), .h (.t1 (.k .str)), .h (.t1 (.k .str)), .h (.t1 (.k .str)), .h (.t1 (.k .str))]]⟩)]⟩, ⟨[⟨[.a (.h (.t1 (.k .pt))), .u, .u, .a (.loc 0 0), .u, .u, .u, .a (.h (.t1 (.k .str))), .u, .a (.h (.t1 (.k .str))), .u, .a (.h (.t1 (.k .str))), .u, .u, .u, .u, .u, .u, .u, .a (.h (.t1 (.k .sl))), .a (.h (.t1 (.k (.int .i64)))), .a (.h (.t1 (.k (.int .i64)))), .u, .u, .u, .u, .u, .a (.h (.t1 (.k .sl))), .a (.h (.t1 (.k (.int .i64)))), .a (.h (.t1 (.k (.int .i64)))), .u, .u, .u, .u, .u, .a (.own 1), .a (.h (.t1 (.k (.int .i64)))), .a (.h (.t1 (.k (.int .i64)))), .u, .u, .u, .u, .a (.h (.t1 (.k .sl))), .a (.h (.t1 (.k (.int .i64)))), .a (.h (.t1 (.k (.int .i64)))), .u, .u, .u, .u, .u, .u, .u, .u, .u, .u, .u, .u, .u, .u, .u, .u, .u, .u, .u, .u, .u, .u, .u, .u, .u, .u], [.box 46 [.h (.t1 (.k .str)), .h (.t1 (.k .str)), .h (.t1 (.k .str)), .h (.t1 (.k .str)), .h (.t1 (.k .str)), .h (.t1 (.k .str))], .ext 9 1]⟩], [(.ret, ⟨[.u, .u, .u, .u, .a (.h (.t1 (.k .str))), .a (.h (.t1 (.k .bool))), .u, .u, .u, .u, .u, .u, .u, .u, .u, .u, .u, .u, .u, .u, .u, .u, .u, .u, .u, .u, .u, .u, .u, .u, .u, .u, .u, .u, .u, .u, .u, .u, .u, .u, .u, .u, .u, .u, .u, .u, .u, .u, .u, .u, .u, .u, .u, .u, .u, .u, .u, .u, .u, .u, .u, .u, .u, .u, .u, .u, .u, .u, .u, .u, .u], []⟩), ((.ex 6), ⟨[.a (.h (.t1 (.k .pt))), .u, .u, .a (.loc 0 0), .u, .u, .u, .a (.h (.t1 (.k .str))), .u, .a (.h (.t1 (.k .str))), .u, .u, .u, .u, .u, .u, .u, .u, .u, .a (.h (.t1 (.k .sl))), .a (.h (.t1 (.k (.int .i64)))), .a (.h (.t1 (.k (.int .i64)))), .u, .u, .u, .u, .u, .a (.h (.t1 (.k .sl))), .a (.h (.t1 (.k (.int .i64)))), .a (.h (.t1 (.k (.int .i64)))), .u, .u, .u, .u, .u, .a (.own 1), .a (.h (.t1 (.k (.int .i64)))), .a (.h (.t1 (.k (.int .i64)))), .u, .u, .u, .u, .u, .u, .u, .u, .u, .u, .u, .u, .u, .u, .u, .u, .u, .u, .u, .u, .u, .u, .u, .u, .u, .u, .u, .u, .u, .u, .u, .u, .u], [.box 46 [.h (.t1 (.k .str)), .h (.t1 (.k .str)), .h (.t1 (.k .str)), .h (.t1 (.k .str)), .h (.t1 (.k .str)), .h (.t1 (.k .str))], .ext 9 1]⟩)]⟩], false⟩
  | _, _ => ⟨[], [], false⟩
theorem pfind_q : (fun (a0 : Option (List V)) (a1 : List UInt8) (a2 : List UInt8) (a3 : List UInt8) (a4 : List UInt8) (a5 : List UInt8) (a6 : List UInt8) => stN tab0_19 code pfind_n FU 24 14 [.a (.v (.pt a0)), .a (.v (.agg [(.str a1), (.str a2), (.str a3), (.str a4), (.str a5), (.str a6)]))] [] pfind_k) = (fun (a0 : Option (List V)) (a1 : List UInt8) (a2 : List UInt8) (a3 : List UInt8) (a4 : List UInt8) (a5 : List UInt8) (a6 : List UInt8) => pfind a0 a1 a2 a3 a4 a5 a6) := by kernel_rfl
noncomputable def tab0_20 : ToldK := addTo tab0_19 14 pfind_e
theorem pfind_h : EntryOK tab0_19 code pfind_n FU 24 14 pfind_e := by
  intro args os t h
  unfold pfind_e at h
  split at h
  · rename_i os0 a0 a1 a2 a3 a4 a5 a6
    cases h
    exact ⟨_, _, fun p => (.tup [(.str p.1), (.bool p.2)]), pfind_k, ids_all rfl, fun _ _ => rfl, (congrFun (congrFun (congrFun (congrFun (congrFun (congrFun (congrFun pfind_q _) _) _) _) _) _) _), fun sv os p hp => by
      unfold pfind_k at hp
      split at hp
      · have hp := dTy_ok hp
        split at hp
        · cases hp; exact ⟨rfl, rfl⟩
        · cases hp
      · cases hp⟩
  · cases h
/-! cubit/pattern.lang -/
noncomputable abbrev plang := Go.Ev.plang
noncomputable def plang_e : List SV → Objs → Option ((β : Type) → (SV → Objs → Option β) → Option β)
  | [.a (.v (.str a0))], os => some fun _ K => (plang a0).bind fun p => K (.a (.v (.bool p))) os
  | _, _ => none
noncomputable def plang_k (sv : SV) (os : Objs) : Option (Bool) := match sv, os with
  | .a (.v v), [] => dTy (.t1 (.k .bool)) v fun v => (match v with | (.bool r0) => some (r0) | _ => none)
  | _, _ => none
noncomputable def plang_n : FuncId → Nat → Ann := fun f n => match f, n with
  | 72, 1 => ⟨[(9, (.t1 (.k .bool)))], [], false⟩
  | 45, 1 => ⟨[], [⟨[⟨[.a (.h (.t1 (.k .str))), .a (.loc 0 0), .u, .u, .u, .u, .u, .u, .u, .u, .u, .u, .u, .u, .u, .u, .u, .u, .u, .u, .u, .u], [.cbox 92 masLow_r]⟩], [((.ex 0), ⟨[.a (.h (.t1 (.k .str))), .u, .u, .u, .u, .u, .u, .u, .u, .u, .u, .u, .u, .u, .u, .u, .u, .u, .u, .u, .u, .u], [.cbox 92 masLow_r]⟩)]⟩], false⟩
  | 44, 1 => ⟨[], [⟨[⟨[.a (.h (.t1 (.k .str))), .a (.loc 0 0), .u, .u, .u, .u, .u, .u, .u, .u, .u, .u, .u, .u, .u, .u], [.cbox 92 masLow_r]⟩], [((.ex 0), ⟨[.a (.h (.t1 (.k .str))), .u, .u, .u, .u, .u, .u, .u, .u, .u, .u, .u, .u, .u, .u, .u], [.cbox 92 masLow_r]⟩)]⟩], false⟩
  | _, _ => ⟨[], [], false⟩
theorem plang_q : (fun (a0 : List UInt8) => stN tab0_20 code plang_n FU 24 57 [.a (.v (.str a0))] [] plang_k) = (fun (a0 : List UInt8) => plang a0) := by kernel_rfl
noncomputable def tab0_21 : ToldK := addTo tab0_20 57 plang_e
theorem plang_h : EntryOK tab0_20 code plang_n FU 24 57 plang_e := by
  intro args os t h
  unfold plang_e at h
  split at h
  · rename_i os0 a0
    cases h
    exact ⟨_, _, fun p => (.bool p), plang_k, ids_all rfl, fun _ _ => rfl, (congrFun plang_q _), fun sv os p hp => by
      unfold plang_k at hp
      split at hp
      · have hp := dTy_ok hp
        split at hp
        · cases hp; exact ⟨rfl, rfl⟩
        · cases hp
      · cases hp⟩
  · cases h
/-! cubit/pattern.width -/
noncomputable abbrev pwidth := Go.Ev.pwidth
noncomputable def pwidth_e : List SV → Objs → Option ((β : Type) → (SV → Objs → Option β) → Option β)
  | [.a (.v (.str a0))], os => some fun _ K => (pwidth a0).bind fun p => K (.a (.v (.bool p))) os
  | _, _ => none
noncomputable def pwidth_k (sv : SV) (os : Objs) : Option (Bool) := match sv, os with
  | .a (.v v), [] => dTy (.t1 (.k .bool)) v fun v => (match v with | (.bool r0) => some (r0) | _ => none)
  | _, _ => none
noncomputable def pwidth_n : FuncId → Nat → Ann := fun f n => match f, n with
  | _, _ => ⟨[], [], false⟩
theorem pwidth_q : (fun (a0 : List UInt8) => stN tab0_21 code pwidth_n FU 24 82 [.a (.v (.str a0))] [] pwidth_k) = (fun (a0 : List UInt8) => pwidth a0) := by kernel_rfl
noncomputable def tab0_22 : ToldK := addTo tab0_21 82 pwidth_e
theorem pwidth_h : EntryOK tab0_21 code pwidth_n FU 24 82 pwidth_e := by
  intro args os t h
  unfold pwidth_e at h
  split at h
  · rename_i os0 a0
    cases h
    exact ⟨_, _, fun p => (.bool p), pwidth_k, ids_all rfl, fun _ _ => rfl, (congrFun pwidth_q _), fun sv os p hp => by
      unfold pwidth_k at hp
      split at hp
      · have hp := dTy_ok hp
        split at hp
        · cases hp; exact ⟨rfl, rfl⟩
        · cases hp
      · cases hp⟩
  · cases h
/-! cubit/pattern.name -/
noncomputable abbrev pname := Go.Ev.pname
noncomputable def pname_e : List SV → Objs → Option ((β : Type) → (SV → Objs → Option β) → Option β)
  | [.a (.v (.str a0))], os => some fun _ K => (pname a0).bind fun p => K (.a (.v (.bool p))) os
  | _, _ => none
noncomputable def pname_k (sv : SV) (os : Objs) : Option (Bool) := match sv, os with
  | .a (.v v), [] => dTy (.t1 (.k .bool)) v fun v => (match v with | (.bool r0) => some (r0) | _ => none)
  | _, _ => none
noncomputable def pname_n : FuncId → Nat → Ann := fun f n => match f, n with
  | 72, 1 => ⟨[(9, (.t1 (.k .bool)))], [], false⟩
  | 45, 1 => ⟨[], [⟨[⟨[.a (.h (.t1 (.k .str))), .a (.loc 0 0), .u, .u, .u, .u, .u, .u, .u, .u, .u, .u, .u, .u, .u, .u, .u, .u, .u, .u, .u, .u], [.cbox 92 masName_r]⟩], [((.ex 0), ⟨[.a (.h (.t1 (.k .str))), .u, .u, .u, .u, .u, .u, .u, .u, .u, .u, .u, .u, .u, .u, .u, .u, .u, .u, .u, .u, .u], [.cbox 92 masName_r]⟩)]⟩], false⟩
  | 44, 1 => ⟨[], [⟨[⟨[.a (.h (.t1 (.k .str))), .a (.loc 0 0), .u, .u, .u, .u, .u, .u, .u, .u, .u, .u, .u, .u, .u, .u], [.cbox 92 masName_r]⟩], [((.ex 0), ⟨[.a (.h (.t1 (.k .str))), .u, .u, .u, .u, .u, .u, .u, .u, .u, .u, .u, .u, .u, .u, .u], [.cbox 92 masName_r]⟩)]⟩], false⟩
  | _, _ => ⟨[], [], false⟩
theorem pname_q : (fun (a0 : List UInt8) => stN tab0_22 code pname_n FU 24 83 [.a (.v (.str a0))] [] pname_k) = (fun (a0 : List UInt8) => pname a0) := by kernel_rfl
noncomputable def tab0_23 : ToldK := addTo tab0_22 83 pname_e
theorem pname_h : EntryOK tab0_22 code pname_n FU 24 83 pname_e := by
  intro args os t h
  unfold pname_e at h
  split at h
  · rename_i os0 a0
    cases h
    exact ⟨_, _, fun p => (.bool p), pname_k, ids_all rfl, fun _ _ => rfl, (congrFun pname_q _), fun sv os p hp => by
      unfold pname_k at hp
      split at hp
      · have hp := dTy_ok hp
        split at hp
        · cases hp; exact ⟨rfl, rfl⟩
        · cases hp
      · cases hp⟩
  · cases h
/-! cubit/pattern.some -/
noncomputable abbrev psome := Go.Ev.psome
noncomputable def psome_e : List SV → Objs → Option ((β : Type) → (SV → Objs → Option β) → Option β)
  | [.a (.v (.str a0))], os => some fun _ K => (psome a0).bind fun p => K (.a (.v (.str p))) os
  | _, _ => none
noncomputable def psome_k (sv : SV) (os : Objs) : Option (List UInt8) := match sv, os with
  | .a (.v v), [] => dTy (.t1 (.k .str)) v fun v => (match v with | (.str r0) => some (r0) | _ => none)
  | _, _ => none
noncomputable def psome_n : FuncId → Nat → Ann := fun f n => match f, n with
  | _, _ => ⟨[], [], false⟩
theorem psome_q : (fun (a0 : List UInt8) => stN tab0_23 code psome_n FU 24 85 [.a (.v (.str a0))] [] psome_k) = (fun (a0 : List UInt8) => psome a0) := by kernel_rfl
noncomputable def tab0_24 : ToldK := addTo tab0_23 85 psome_e
theorem psome_h : EntryOK tab0_23 code psome_n FU 24 85 psome_e := by
  intro args os t h
  unfold psome_e at h
  split at h
  · rename_i os0 a0
    cases h
    exact ⟨_, _, fun p => (.str p), psome_k, ids_all rfl, fun _ _ => rfl, (congrFun psome_q _), fun sv os p hp => by
      unfold psome_k at hp
      split at hp
      · have hp := dTy_ok hp
        split at hp
        · cases hp; exact ⟨rfl, rfl⟩
        · cases hp
      · cases hp⟩
  · cases h
/-! cubit/rows.Blank -/
noncomputable abbrev rblank := Go.Ev.rblank
noncomputable def rblank_e : List SV → Objs → Option ((β : Type) → (SV → Objs → Option β) → Option β)
  | [.a (.v (.str a0))], os => some fun _ K => (rblank a0).bind fun p => K (.a (.v (.str p))) os
  | _, _ => none
noncomputable def rblank_k (sv : SV) (os : Objs) : Option (List UInt8) := match sv, os with
  | .a (.v v), [] => dTy (.t1 (.k .str)) v fun v => (match v with | (.str r0) => some (r0) | _ => none)
  | _, _ => none
noncomputable def rblank_n : FuncId → Nat → Ann := fun f n => match f, n with
  | _, _ => ⟨[], [], false⟩
theorem rblank_q : (fun (a0 : List UInt8) => stN tab0_24 code rblank_n FU 24 56 [.a (.v (.str a0))] [] rblank_k) = (fun (a0 : List UInt8) => rblank a0) := by kernel_rfl
noncomputable def tab0_25 : ToldK := addTo tab0_24 56 rblank_e
theorem rblank_h : EntryOK tab0_24 code rblank_n FU 24 56 rblank_e := by
  intro args os t h
  unfold rblank_e at h
  split at h
  · rename_i os0 a0
    cases h
    exact ⟨_, _, fun p => (.str p), rblank_k, ids_all rfl, fun _ _ => rfl, (congrFun rblank_q _), fun sv os p hp => by
      unfold rblank_k at hp
      split at hp
      · have hp := dTy_ok hp
        split at hp
        · cases hp; exact ⟨rfl, rfl⟩
        · cases hp
      · cases hp⟩
  · cases h
/-! cubit/pattern.signs -/
noncomputable abbrev psigns := Go.Ev.psigns
noncomputable def psigns_e : List SV → Objs → Option ((β : Type) → (SV → Objs → Option β) → Option β)
  | [.a (.v (.str a0))], os => some fun _ K => (psigns a0).bind fun p => K (.a (.v (.tup [(.int .i64 p.1), (.int .i64 p.2)]))) os
  | _, _ => none
noncomputable def psigns_k (sv : SV) (os : Objs) : Option (Int × Int) := match sv, os with
  | .a (.v v), [] => dTy (.tup [(.k (.int .i64)), (.k (.int .i64))]) v fun v => (match v with | (.tup [(.int .i64 r0), (.int .i64 r1)]) => some (r0, r1) | _ => none)
  | _, _ => none
noncomputable def psigns_n : FuncId → Nat → Ann := fun f n => match f, n with
  | _, _ => ⟨[], [], false⟩
theorem psigns_q : (fun (a0 : List UInt8) => stN tab0_25 code psigns_n FU 24 84 [.a (.v (.str a0))] [] psigns_k) = (fun (a0 : List UInt8) => psigns a0) := by kernel_rfl
noncomputable def tab0_26 : ToldK := addTo tab0_25 84 psigns_e
theorem psigns_h : EntryOK tab0_25 code psigns_n FU 24 84 psigns_e := by
  intro args os t h
  unfold psigns_e at h
  split at h
  · rename_i os0 a0
    cases h
    exact ⟨_, _, fun p => (.tup [(.int .i64 p.1), (.int .i64 p.2)]), psigns_k, ids_all rfl, fun _ _ => rfl, (congrFun psigns_q _), fun sv os p hp => by
      unfold psigns_k at hp
      split at hp
      · have hp := dTy_ok hp
        split at hp
        · cases hp; exact ⟨rfl, rfl⟩
        · cases hp
      · cases hp⟩
  · cases h
/-! cubit/pattern.key -/
noncomputable abbrev pkey := pkey172
noncomputable def pkey_e : List SV → Objs → Option ((β : Type) → (SV → Objs → Option β) → Option β)
  | [.a (.v (.sl a0))], os => some fun _ K => (pkey a0).bind fun p => K (.a (.v (.tup [(.agg [(.str p.1), (.str p.2.1), (.str p.2.2.1), (.str p.2.2.2.1), (.str p.2.2.2.2.1), (.str p.2.2.2.2.2.1)]), (.bool p.2.2.2.2.2.2)]))) os
  | _, _ => none
noncomputable def pkey_k (sv : SV) (os : Objs) : Option (List UInt8 × List UInt8 × List UInt8 × List UInt8 × List UInt8 × List UInt8 × Bool) := match sv, os with
  | .a (.v v), [] => dTy (.tup [(.agg [.str, .str, .str, .str, .str, .str]), (.k .bool)]) v fun v => (match v with | (.tup [(.agg [(.str r0), (.str r1), (.str r2), (.str r3), (.str r4), (.str r5)]), (.bool r6)]) => some (r0, r1, r2, r3, r4, r5, r6) | _ => none)
  | _, _ => none
noncomputable def pkey_n : FuncId → Nat → Ann := fun f n => match f, n with
  | 55, 0 => ⟨[(15, (.t1 (.k .str))), (17, (.t1 (.k (.int .i64)))), (24, (.t1 (.k .str))), (31, (.t1 (.k .str))), (44, (.t1 (.k .str))), (52, (.t1 (.k .str))), (55, (.t1 (.k .str))), (58, (.t1 (.k .str))), (65, (.t1 (.k .str))), (72, (.t1 (.k .str))), (77, (.t1 (.k .str))), (80, (.t1 (.k .str))), (83, (.t1 (.k .str))), (100, (.t1 (.k .str))), (106, (.t1 (.k .str))), (109, (.t1 (.k .str))), (129, (.t1 (.k .str))), (144, (.t1 (.k .str)))], [⟨[⟨[.a (.h (.t1 (.k .sl))), .u, .a (.loc 0 0), .u, .a (.h (.t1 (.k (.int .i64)))), .u, .u, .u, .u, .u, .u, .u, .u, .u, .u, .u, .u, .u, .u, .u, .u, .u, .u, .u, .u, .u, .u, .u, .u, .u, .u, .u, .u, .u, .u, .u, .u, .u, .u, .u, .a (.h (.t1 (.k .sl))), .a (.h (.t1 (.k (.int .i64)))), .a (.h (.t1 (.k (.int .i64)))), .u, .u, .u, .u, .u, .u, .u, .u, .u, .u, .u, .u, .u, .u, .u, .u, .u, .u, .u, .u, .u, .u, .u, .u, .u, .u, .u, .u, .u, .u, .u, .u, .u, .u, .u, .u, .u, .u, .u, .u, .u, .u, .u, .u, .u, .u, .u, .u, .u, .u, .u, .u, .u, .u, .u, .u, .u, .u, .u, .u, .u, .u, .u, .u, .u, .u, .u, .u, .u, .u, .u, .u, .u, .u, .u, .u, .u, .u, .u, .u, .u, .u, .u, .u, .u, .u, .u, .u, .u, .u, .u, .u, .u, .u, .u, .u, .u, .u, .u, .u, .u, .u, .u, .u, .u, .u, .u, .u, .u, .u, .u, .u, .u, .u, .u, .u, .u, .u], [.box 46 [.h (.t1 (.k .str)), .h (.t1 (.k .str)), .h (.t1 (.k .str)), .h (.t1 (.k .str)), .h (.t1 (.k .str)), .h (.t1 (.k .str))]]⟩], [(.ret, ⟨[.u, .u, .a (.loc 0 0), .a (.h (.t1 (.k .bool))), .u, .u, .u, .u, .u, .u, .u, .u, .u, .u, .u, .u, .u, .u, .u, .u, .u, .u, .u, .u, .u, .u, .u, .u, .u, .u, .u, .u, .u, .u, .u, .u, .u, .u, .u, .u, .u, .u, .u, .u, .u, .u, .u, .u, .u, .u, .u, .u, .u, .u, .u, .u, .u, .u, .u, .u, .u, .u, .u, .u, .u, .u, .u, .u, .u, .u, .u, .u, .u, .u, .u, .u, .u, .u, .u, .u, .u, .u, .u, .u, .u, .u, .u, .u, .u, .u, .u, .u, .u, .u, .u, .u, .u, .u, .u, .u, .u, .u, .u, .u, .u, .u, .u, .u, .u, .u, .u, .u, .u, .u, .u, .u, .u, .u, .u, .u, .u, .u, .u, .u, .u, .u, .u, .u, .u, .u, .u, .u, .u, .u, .u, .u, .u, .u, .u, .u, .u, .u, .u, .u, .u, .u, .u, .u, .u, .u, .u, .u, .u, .u, .u, .u, .u, .u, .u, .u, .u], [.box 46 [.h (.t1 (.k .str)), .h (.t1 (.k .str)), .h (.t1 (.k .str)), .h (.t1 (.k .str)), .h (.t1 (.k .str)), .h (.t1 (.k .str))]]⟩), ((.ex 0), ⟨[.a (.h (.t1 (.k .sl))), .u, .a (.loc 0 0), .u, .a (.h (.t1 (.k (.int .i64)))), .u, .u, .u, .u, .u, .u, .u, .u, .u, .u, .u, .u, .u, .u, .u, .u, .u, .u, .u, .u, .u, .u, .u, .u, .u, .u, .u, .u, .u, .u, .u, .u, .u, .u, .u, .u, .u, .u, .u, .u, .u, .u, .u, .u, .u, .u, .u, .u, .u, .u, .u, .u, .u, .u, .u, .u, .u, .u, .u, .u, .u, .u, .u, .u, .u, .u, .u, .u, .u, .u, .u, .u, .u, .u, .u, .u, .u, .u, .u, .u, .u, .u, .u, .u, .u, .u, .u, .u, .u, .u, .u, .u, .u, .u, .u, .u, .u, .u, .u, .u, .u, .u, .u, .u, .u, .u, .u, .u, .u, .u, .u, .u, .u, .u, .u, .u, .u, .u, .u, .u, .u, .u, .u, .u, .u, .u, .u, .u, .u, .u, .u, .u, .u, .u, .u, .u, .u, .u, .u, .u, .u, .u, .u, .u, .u, .u, .u, .u, .u, .u, .u, .u, .u, .u, .u, .u], [.box 46 [.h (.t1 (.k .str)), .h (.t1 (.k .str)), .h (.t1 (.k .str)), .h (.t1 (.k .str)), .h (.t1 (.k .str)), .h (.t1 (.k .str))]]⟩)]⟩], false⟩
  | _, _ => ⟨[], [], false⟩
theorem pkey_q : (fun (a0 : Option (List V)) => stN tab0_26 code pkey_n FU 24 55 [.a (.v (.sl a0))] [] pkey_k) = (fun (a0 : Option (List V)) => pkey a0) := by kernel_rfl
noncomputable def tab0_27 : ToldK := addTo tab0_26 55 pkey_e
theorem pkey_h : EntryOK tab0_26 code pkey_n FU 24 55 pkey_e := by
  intro args os t h
  unfold pkey_e at h
  split at h
  · rename_i os0 a0
    cases h
    exact ⟨_, _, fun p => (.tup [(.agg [(.str p.1), (.str p.2.1), (.str p.2.2.1), (.str p.2.2.2.1), (.str p.2.2.2.2.1), (.str p.2.2.2.2.2.1)]), (.bool p.2.2.2.2.2.2)]), pkey_k, ids_all rfl, fun _ _ => rfl, (congrFun pkey_q _), fun sv os p hp => by
      unfold pkey_k at hp
      split at hp
      · have hp := dTy_ok hp
        split at hp
        · cases hp; exact ⟨rfl, rfl⟩
        · cases hp
      · cases hp⟩
  · cases h
/-! cubit/pattern.Load -/
noncomputable abbrev pload := pload172
noncomputable def pload_e : List SV → Objs → Option ((β : Type) → (SV → Objs → Option β) → Option β)
  | [.a (.v (.sl a0))], os => some fun _ K => (pload a0).bind fun p => K (.a (.v (.tup [(.pt p.1), (.int .i64 p.2.1), (.int .i64 p.2.2)]))) os
  | _, _ => none
noncomputable def pload_k (sv : SV) (os : Objs) : Option (Option (List V) × Int × Int) := match sv, os with
  | .a (.v v), [] => dTy (.tup [(.k .pt), (.k (.int .i64)), (.k (.int .i64))]) v fun v => (match v with | (.tup [(.pt r0), (.int .i64 r1), (.int .i64 r2)]) => some (r0, r1, r2) | _ => none)
  | _, _ => none
noncomputable def pload_n : FuncId → Nat → Ann := fun f n => match f, n with
  | 12, 0 => ⟨[(17, (.t1 (.agg [(.int .i64), .sl]))), (25, (.t1 (.k .str)))], [⟨[⟨[.u, .u, .u, .u, .u, .a (.loc 0 0), .u, .u, .u, .u, .u, .u, .u, .a (.h (.t1 (.k .sl))), .a (.h (.t1 (.k (.int .i64)))), .a (.h (.t1 (.k (.int .i64)))), .u, .u, .u, .u, .u, .u, .u, .u, .u, .u, .u, .u, .u, .u, .u, .u, .u, .u, .u, .u, .u, .u, .u, .u, .u, .u, .u, .u, .u, .u, .u, .u, .u, .u, .u], [.box 69 [.mapr 1, .mapr 2], .map, .map]⟩], [(.ret, ⟨[.u, .u, .a (.np), .a (.h (.t1 (.k (.int .i64)))), .a (.h (.t1 (.k (.int .i64)))), .u, .u, .u, .u, .u, .u, .u, .u, .u, .u, .u, .u, .u, .u, .u, .u, .u, .u, .u, .u, .u, .u, .u, .u, .u, .u, .u, .u, .u, .u, .u, .u, .u, .u, .u, .u, .u, .u, .u, .u, .u, .u, .u, .u, .u, .u], []⟩), ((.ex 0), ⟨[.u, .u, .u, .u, .u, .a (.loc 0 0), .u, .u, .u, .u, .u, .u, .u, .u, .u, .u, .u, .u, .u, .u, .u, .u, .u, .u, .u, .u, .u, .u, .u, .u, .u, .u, .u, .u, .u, .u, .u, .u, .u, .u, .u, .u, .u, .u, .u, .u, .u, .u, .u, .u, .u], [.box 69 [.mapr 1, .mapr 2], .map, .map]⟩)]⟩], true⟩
  | 23, 4 => ⟨[(22, (.tup [(.k .str), (.k .bool)])), (35, (.t1 (.k .str)))], [], false⟩
  | 24, 4 => ⟨[(11, (.t1 (.k .str))), (18, (.t1 (.k .str))), (29, (.t1 (.k .str))), (31, (.t1 (.k .str))), (36, (.t1 (.k .str))), (40, (.t1 (.k .str))), (48, (.t1 (.k .str))), (51, (.t1 (.k .str)))], [], false⟩
  | 27, 4 => ⟨[(18, (.tup [(.k .str), (.k .bool)]))], [⟨[⟨[.a (.loc 0 0), .a (.h (.t1 (.k .str))), .u, .u, .u, .a (.nil), .a (.h (.t1 (.k .bool))), .u, .u, .u, .u, .u, .u, .u, .u, .u, .u, .u, .u, .u, .u, .u, .u, .u, .u, .u, .u, .u], [.box 69 [.mapr 1, .mapr 2], .map, .map, .no]⟩, ⟨[.a (.loc 0 0), .a (.h (.t1 (.k .str))), .u, .u, .u, .a (.own 4), .a (.h (.t1 (.k .bool))), .u, .u, .u, .u, .u, .u, .u, .u, .u, .u, .u, .u, .u, .u, .u, .u, .u, .u, .u, .u, .u], [.box 69 [.mapr 1, .mapr 2], .map, .map, .no, .ext 9 1]⟩], [((.ex 0), ⟨[.u, .u, .u, .u, .u, .a (.nil), .u, .u, .u, .u, .u, .u, .u, .u, .u, .u, .u, .u, .u, .u, .u, .u, .u, .u, .u, .u, .u, .u], [.box 69 [.mapr 1, .mapr 2], .map, .map, .no]⟩), ((.ex 0), ⟨[.u, .u, .u, .u, .u, .a (.own 4), .u, .u, .u, .u, .u, .u, .u, .u, .u, .u, .u, .u, .u, .u, .u, .u, .u, .u, .u, .u, .u, .u], [.box 69 [.mapr 1, .mapr 2], .map, .map, .no, .ext 9 1]⟩)]⟩], false⟩
  | 88, 4 => ⟨[(14, (.t1 (.k .str)))], [⟨[⟨[.a (.h (.t1 (.k .sl))), .a (.h (.t1 (.k .str))), .u, .u, .u, .u, .u, .a (.h (.t1 (.k (.int .i64)))), .a (.h (.t1 (.k (.int .i64)))), .u, .u, .u, .u, .u, .u, .u, .u, .u, .u], [.no, .no, .no, .no]⟩], [(.ret, ⟨[.u, .u, .u, .u, .a (.h (.t1 (.k (.int .i64)))), .u, .u, .u, .u, .u, .u, .u, .u, .u, .u, .u, .u, .u, .u], [.no, .no, .no, .no]⟩), ((.ex 0), ⟨[.u, .u, .u, .u, .u, .u, .u, .u, .u, .u, .u, .u, .u, .u, .u, .u, .u, .u, .u], [.no, .no, .no, .no]⟩)]⟩], false⟩
  | _, _ => ⟨[], [], false⟩
theorem pload_q : (fun (a0 : Option (List V)) => stN tab0_27 code pload_n FU 24 12 [.a (.v (.sl a0))] [] pload_k) = (fun (a0 : Option (List V)) => pload a0) := by kernel_rfl
noncomputable def tab0_28 : ToldK := addTo tab0_27 12 pload_e
theorem pload_h : EntryOK tab0_27 code pload_n FU 24 12 pload_e := by
  intro args os t h
  unfold pload_e at h
  split at h
  · rename_i os0 a0
    cases h
    exact ⟨_, _, fun p => (.tup [(.pt p.1), (.int .i64 p.2.1), (.int .i64 p.2.2)]), pload_k, ids_all rfl, fun _ _ => rfl, (congrFun pload_q _), fun sv os p hp => by
      unfold pload_k at hp
      split at hp
      · have hp := dTy_ok hp
        split at hp
        · cases hp; exact ⟨rfl, rfl⟩
        · cases hp
      · cases hp⟩
  · cases h
/-! cubit/atom.Show -/
noncomputable abbrev ashow := Go.Ev.ashow
noncomputable def ashow_e : List SV → Objs → Option ((β : Type) → (SV → Objs → Option β) → Option β)
  | [.a (.v (.agg [(.str a0), (.str a1), (.int .i64 a2)]))], os => some fun _ K => (ashow a0 a1 a2).bind fun p => K (.a (.v (.str p))) os
  | _, _ => none
noncomputable def ashow_k (sv : SV) (os : Objs) : Option (List UInt8) := match sv, os with
  | .a (.v v), [] => dTy (.t1 (.k .str)) v fun v => (match v with | (.str r0) => some (r0) | _ => none)
  | _, _ => none
noncomputable def ashow_n : FuncId → Nat → Ann := fun f n => match f, n with
  | _, _ => ⟨[], [], false⟩
theorem ashow_q : (fun (a0 : List UInt8) (a1 : List UInt8) (a2 : Int) => stN tab0_28 code ashow_n FU 24 11 [.a (.v (.agg [(.str a0), (.str a1), (.int .i64 a2)]))] [] ashow_k) = (fun (a0 : List UInt8) (a1 : List UInt8) (a2 : Int) => ashow a0 a1 a2) := by kernel_rfl
noncomputable def tab0_29 : ToldK := addTo tab0_28 11 ashow_e
theorem ashow_h : EntryOK tab0_28 code ashow_n FU 24 11 ashow_e := by
  intro args os t h
  unfold ashow_e at h
  split at h
  · rename_i os0 a0 a1 a2
    cases h
    exact ⟨_, _, fun p => (.str p), ashow_k, ids_all rfl, fun _ _ => rfl, (congrFun (congrFun (congrFun ashow_q _) _) _), fun sv os p hp => by
      unfold ashow_k at hp
      split at hp
      · have hp := dTy_ok hp
        split at hp
        · cases hp; exact ⟨rfl, rfl⟩
        · cases hp
      · cases hp⟩
  · cases h
/-! cubit/nat.trim -/
noncomputable abbrev ntrim := Go.Ev.ntrim
noncomputable def ntrim_e : List SV → Objs → Option ((β : Type) → (SV → Objs → Option β) → Option β)
  | [.a (.v (.sl a0))], os => some fun _ K => (ntrim a0).bind fun p => K (.a (.v (.agg [(.sl p)]))) os
  | _, _ => none
noncomputable def ntrim_k (sv : SV) (os : Objs) : Option (Option (List V)) := match sv, os with
  | .a (.v v), [] => dTy (.t1 (.agg [.sl])) v fun v => (match v with | (.agg [(.sl r0)]) => some (r0) | _ => none)
  | _, _ => none
noncomputable def ntrim_n : FuncId → Nat → Ann := fun f n => match f, n with
  | 38, 0 => ⟨[(11, (.t1 (.k (.int .u32))))], [⟨[⟨[.a (.h (.t1 (.k .sl))), .u, .a (.loc 0 0), .u, .u, .u, .u, .u, .u, .u, .u, .u, .u, .u, .u, .u, .u, .u, .u, .u, .u, .u], [.box 51 [.nil]]⟩], [((.ex 0), ⟨[.a (.h (.t1 (.k .sl))), .u, .a (.loc 0 0), .u, .u, .u, .u, .u, .u, .u, .u, .u, .u, .u, .u, .u, .u, .u, .u, .u, .u, .u], [.box 51 [.nil]]⟩)]⟩], false⟩
  | _, _ => ⟨[], [], false⟩
theorem ntrim_q : (fun (a0 : Option (List V)) => stN tab0_29 code ntrim_n FU 24 38 [.a (.v (.sl a0))] [] ntrim_k) = (fun (a0 : Option (List V)) => ntrim a0) := by kernel_rfl
noncomputable def tab0_30 : ToldK := addTo tab0_29 38 ntrim_e
theorem ntrim_h : EntryOK tab0_29 code ntrim_n FU 24 38 ntrim_e := by
  intro args os t h
  unfold ntrim_e at h
  split at h
  · rename_i os0 a0
    cases h
    exact ⟨_, _, fun p => (.agg [(.sl p)]), ntrim_k, ids_all rfl, fun _ _ => rfl, (congrFun ntrim_q _), fun sv os p hp => by
      unfold ntrim_k at hp
      split at hp
      · have hp := dTy_ok hp
        split at hp
        · cases hp; exact ⟨rfl, rfl⟩
        · cases hp
      · cases hp⟩
  · cases h
/-! cubit/nat.Of -/
noncomputable abbrev nof := Go.Ev.nof
noncomputable def nof_e : List SV → Objs → Option ((β : Type) → (SV → Objs → Option β) → Option β)
  | [.a (.v (.int .u64 a0))], os => some fun _ K => (nof a0).bind fun p => K (.a (.v (.agg [(.sl p)]))) os
  | _, _ => none
noncomputable def nof_k (sv : SV) (os : Objs) : Option (Option (List V)) := match sv, os with
  | .a (.v v), [] => dTy (.t1 (.agg [.sl])) v fun v => (match v with | (.agg [(.sl r0)]) => some (r0) | _ => none)
  | _, _ => none
noncomputable def nof_n : FuncId → Nat → Ann := fun f n => match f, n with
  | _, _ => ⟨[], [], false⟩
theorem nof_q : (fun (a0 : Int) => stN tab0_30 code nof_n FU 24 16 [.a (.v (.int .u64 a0))] [] nof_k) = (fun (a0 : Int) => nof a0) := by kernel_rfl
noncomputable def tab0_31 : ToldK := addTo tab0_30 16 nof_e
theorem nof_h : EntryOK tab0_30 code nof_n FU 24 16 nof_e := by
  intro args os t h
  unfold nof_e at h
  split at h
  · rename_i os0 a0
    cases h
    exact ⟨_, _, fun p => (.agg [(.sl p)]), nof_k, ids_all rfl, fun _ _ => rfl, (congrFun nof_q _), fun sv os p hp => by
      unfold nof_k at hp
      split at hp
      · have hp := dTy_ok hp
        split at hp
        · cases hp; exact ⟨rfl, rfl⟩
        · cases hp
      · cases hp⟩
  · cases h
/-! cubit/nat.order -/
noncomputable abbrev norder := Go.Ev.norder
noncomputable def norder_e : List SV → Objs → Option ((β : Type) → (SV → Objs → Option β) → Option β)
  | [.a (.v (.bool a0))], os => some fun _ K => (norder a0).bind fun p => K (.a (.v (.int .i64 p))) os
  | _, _ => none
noncomputable def norder_k (sv : SV) (os : Objs) : Option (Int) := match sv, os with
  | .a (.v v), [] => dTy (.t1 (.k (.int .i64))) v fun v => (match v with | (.int .i64 r0) => some (r0) | _ => none)
  | _, _ => none
noncomputable def norder_n : FuncId → Nat → Ann := fun f n => match f, n with
  | _, _ => ⟨[], [], false⟩
theorem norder_q : (fun (a0 : Bool) => stN tab0_31 code norder_n FU 24 63 [.a (.v (.bool a0))] [] norder_k) = (fun (a0 : Bool) => norder a0) := by kernel_rfl
noncomputable def tab0_32 : ToldK := addTo tab0_31 63 norder_e
theorem norder_h : EntryOK tab0_31 code norder_n FU 24 63 norder_e := by
  intro args os t h
  unfold norder_e at h
  split at h
  · rename_i os0 a0
    cases h
    exact ⟨_, _, fun p => (.int .i64 p), norder_k, ids_all rfl, fun _ _ => rfl, (congrFun norder_q _), fun sv os p hp => by
      unfold norder_k at hp
      split at hp
      · have hp := dTy_ok hp
        split at hp
        · cases hp; exact ⟨rfl, rfl⟩
        · cases hp
      · cases hp⟩
  · cases h
/-! cubit/nat.Cmp -/
noncomputable abbrev ncmp := Go.Ev.ncmp
noncomputable def ncmp_e : List SV → Objs → Option ((β : Type) → (SV → Objs → Option β) → Option β)
  | [.a (.v (.agg [(.sl a0)])), .a (.v (.agg [(.sl a1)]))], os => some fun _ K => (ncmp a0 a1).bind fun p => K (.a (.v (.int .i64 p))) os
  | _, _ => none
noncomputable def ncmp_k (sv : SV) (os : Objs) : Option (Int) := match sv, os with
  | .a (.v v), [] => dTy (.t1 (.k (.int .i64))) v fun v => (match v with | (.int .i64 r0) => some (r0) | _ => none)
  | _, _ => none
noncomputable def ncmp_n : FuncId → Nat → Ann := fun f n => match f, n with
  | 35, 0 => ⟨[(36, (.t1 (.k (.int .u32)))), (40, (.t1 (.k (.int .u32)))), (45, (.t1 (.k (.int .u32)))), (49, (.t1 (.k (.int .u32))))], [⟨[⟨[.u, .u, .u, .u, .u, .a (.h (.t1 (.k .sl))), .a (.h (.t1 (.k .sl))), .a (.h (.t1 (.k (.int .i64)))), .u, .u, .u, .u, .u, .u, .u, .u, .u, .u, .u, .u, .u, .u, .u, .u, .u, .u, .u, .u, .u, .u, .u, .u, .u, .u, .u, .u, .u, .u, .u, .u, .u, .u, .u, .u, .u, .u, .u, .u, .u, .u, .u, .u, .u], []⟩], [(.ret, ⟨[.u, .u, .u, .u, .a (.h (.t1 (.k (.int .i64)))), .u, .u, .u, .u, .u, .u, .u, .u, .u, .u, .u, .u, .u, .u, .u, .u, .u, .u, .u, .u, .u, .u, .u, .u, .u, .u, .u, .u, .u, .u, .u, .u, .u, .u, .u, .u, .u, .u, .u, .u, .u, .u, .u, .u, .u, .u, .u, .u], []⟩), ((.ex 0), ⟨[.u, .u, .u, .u, .u, .u, .u, .u, .u, .u, .u, .u, .u, .u, .u, .u, .u, .u, .u, .u, .u, .u, .u, .u, .u, .u, .u, .u, .u, .u, .u, .u, .u, .u, .u, .u, .u, .u, .u, .u, .u, .u, .u, .u, .u, .u, .u, .u, .u, .u, .u, .u, .u], []⟩)]⟩], false⟩
  | _, _ => ⟨[], [], false⟩
theorem ncmp_q : (fun (a0 : Option (List V)) (a1 : Option (List V)) => stN tab0_32 code ncmp_n FU 24 35 [.a (.v (.agg [(.sl a0)])), .a (.v (.agg [(.sl a1)]))] [] ncmp_k) = (fun (a0 : Option (List V)) (a1 : Option (List V)) => ncmp a0 a1) := by kernel_rfl
noncomputable def tab0_33 : ToldK := addTo tab0_32 35 ncmp_e
theorem ncmp_h : EntryOK tab0_32 code ncmp_n FU 24 35 ncmp_e := by
  intro args os t h
  unfold ncmp_e at h
  split at h
  · rename_i os0 a0 a1
    cases h
    exact ⟨_, _, fun p => (.int .i64 p), ncmp_k, ids_all rfl, fun _ _ => rfl, (congrFun (congrFun ncmp_q _) _), fun sv os p hp => by
      unfold ncmp_k at hp
      split at hp
      · have hp := dTy_ok hp
        split at hp
        · cases hp; exact ⟨rfl, rfl⟩
        · cases hp
      · cases hp⟩
  · cases h
/-! cubit/nat.small -/
noncomputable abbrev nsmall := Go.Ev.nsmall
noncomputable def nsmall_e : List SV → Objs → Option ((β : Type) → (SV → Objs → Option β) → Option β)
  | [.a (.v (.sl a0)), .a (.v (.int .u32 a1))], os => some fun _ K => (nsmall a0 a1).bind fun p => K (.a (.v (.tup [(.sl p.1), (.int .u32 p.2)]))) os
  | _, _ => none
noncomputable def nsmall_k (sv : SV) (os : Objs) : Option (Option (List V) × Int) := match sv, os with
  | .a (.v v), [] => dTy (.tup [(.k .sl), (.k (.int .u32))]) v fun v => (match v with | (.tup [(.sl r0), (.int .u32 r1)]) => some (r0, r1) | _ => none)
  | _, _ => none
noncomputable def nsmall_n : FuncId → Nat → Ann := fun f n => match f, n with
  | 64, 0 => ⟨[(23, (.t1 (.k (.int .u32)))), (34, (.t1 (.k (.int .u32))))], [⟨[⟨[.a (.h (.t1 (.k .sl))), .a (.h (.t1 (.k (.int .u32)))), .u, .u, .u, .u, .a (.own 0), .a (.h (.t1 (.k (.int .u64)))), .a (.h (.t1 (.k (.int .i64)))), .u, .u, .u, .u, .u, .u, .u, .u, .u, .u, .u, .u, .u, .u, .u, .u, .u, .u, .u, .u, .u, .u, .u, .u, .u, .u, .u, .u, .u, .u, .u, .u, .u], [.arr 85 1]⟩], [((.ex 0), ⟨[.u, .u, .u, .u, .u, .u, .a (.own 0), .a (.h (.t1 (.k (.int .u64)))), .u, .u, .u, .u, .u, .u, .u, .u, .u, .u, .u, .u, .u, .u, .u, .u, .u, .u, .u, .u, .u, .u, .u, .u, .u, .u, .u, .u, .u, .u, .u, .u, .u, .u], [.arr 85 1]⟩)]⟩], false⟩
  | _, _ => ⟨[], [], false⟩
theorem nsmall_q : (fun (a0 : Option (List V)) (a1 : Int) => stN tab0_33 code nsmall_n FU 24 64 [.a (.v (.sl a0)), .a (.v (.int .u32 a1))] [] nsmall_k) = (fun (a0 : Option (List V)) (a1 : Int) => nsmall a0 a1) := by kernel_rfl
noncomputable def tab0_34 : ToldK := addTo tab0_33 64 nsmall_e
theorem nsmall_h : EntryOK tab0_33 code nsmall_n FU 24 64 nsmall_e := by
  intro args os t h
  unfold nsmall_e at h
  split at h
  · rename_i os0 a0 a1
    cases h
    exact ⟨_, _, fun p => (.tup [(.sl p.1), (.int .u32 p.2)]), nsmall_k, ids_all rfl, fun _ _ => rfl, (congrFun (congrFun nsmall_q _) _), fun sv os p hp => by
      unfold nsmall_k at hp
      split at hp
      · have hp := dTy_ok hp
        split at hp
        · cases hp; exact ⟨rfl, rfl⟩
        · cases hp
      · cases hp⟩
  · cases h
/-! cubit/nat.Text -/
noncomputable abbrev ntext := Go.Ev.ntext
noncomputable def ntext_e : List SV → Objs → Option ((β : Type) → (SV → Objs → Option β) → Option β)
  | [.a (.v (.agg [(.sl a0)]))], os => some fun _ K => (ntext a0).bind fun p => K (.a (.v (.str p))) os
  | _, _ => none
noncomputable def ntext_k (sv : SV) (os : Objs) : Option (List UInt8) := match sv, os with
  | .a (.v v), [] => dTy (.t1 (.k .str)) v fun v => (match v with | (.str r0) => some (r0) | _ => none)
  | _, _ => none
noncomputable def ntext_n : FuncId → Nat → Ann := fun f n => match f, n with
  | 66, 0 => ⟨[(20, (.t1 (.k .str))), (24, (.t1 (.k .str))), (26, (.t1 (.k .str)))], [⟨[⟨[.a (.nil), .u, .a (.h (.t1 (.k (.int .i64)))), .a (.h (.t1 (.k (.int .i64)))), .u, .u, .u, .u, .u, .u, .u, .u, .u, .u, .u, .u, .u, .u, .u, .u, .u, .u, .u, .u, .u, .u, .u, .u], []⟩], [((.ex 0), ⟨[.u, .u, .u, .u, .u, .u, .u, .u, .u, .u, .u, .u, .u, .u, .u, .u, .u, .u, .u, .u, .u, .u, .u, .u, .u, .u, .u, .u], []⟩)]⟩], false⟩
  | 66, 1 => ⟨[(21, (.t1 (.k .str))), (25, (.t1 (.k .str))), (26, (.t1 (.k .str))), (27, (.t1 (.k .str)))], [⟨[⟨[.a (.own 0), .u, .a (.h (.t1 (.k (.int .i64)))), .a (.h (.t1 (.k (.int .i64)))), .u, .u, .u, .u, .u, .u, .u, .u, .u, .u, .u, .u, .u, .u, .u, .u, .u, .u, .u, .u, .u, .u, .u, .u], [.arr 9 1]⟩], [((.ex 0), ⟨[.u, .u, .u, .u, .u, .u, .u, .u, .u, .u, .u, .u, .u, .u, .u, .u, .u, .u, .u, .u, .u, .u, .u, .u, .u, .u, .u, .u], [.arr 9 1]⟩)]⟩], false⟩
  | 36, 0 => ⟨[], [⟨[⟨[.u, .u, .u, .a (.h (.t1 (.k .sl))), .a (.nil), .u, .u, .u, .u, .u, .u, .u, .u, .u, .u, .u, .u, .u, .u, .u, .u, .u, .u, .u, .u, .u, .u, .u, .u, .u, .u, .u, .u, .u, .u, .u, .u, .u, .u, .u, .u, .u, .u, .u, .u, .u], []⟩, ⟨[.u, .u, .u, .a (.h (.t1 (.k .sl))), .a (.own 0), .u, .u, .u, .u, .u, .u, .u, .u, .u, .u, .u, .u, .u, .u, .u, .u, .u, .u, .u, .u, .u, .u, .u, .u, .u, .u, .u, .u, .u, .u, .u, .u, .u, .u, .u, .u, .u, .u, .u, .u, .u], [.arr 9 1]⟩], [((.ex 0), ⟨[.u, .u, .u, .u, .a (.nil), .u, .u, .u, .u, .u, .u, .u, .u, .u, .u, .u, .u, .u, .u, .u, .u, .u, .u, .u, .u, .u, .u, .u, .u, .u, .u, .u, .u, .u, .u, .u, .u, .u, .u, .u, .u, .u, .u, .u, .u, .u], []⟩), ((.ex 0), ⟨[.u, .u, .u, .u, .a (.own 0), .u, .u, .u, .u, .u, .u, .u, .u, .u, .u, .u, .u, .u, .u, .u, .u, .u, .u, .u, .u, .u, .u, .u, .u, .u, .u, .u, .u, .u, .u, .u, .u, .u, .u, .u, .u, .u, .u, .u, .u, .u], [.arr 9 1]⟩)]⟩], false⟩
  | _, _ => ⟨[], [], false⟩
theorem ntext_q : (fun (a0 : Option (List V)) => stN tab0_34 code ntext_n FU 24 36 [.a (.v (.agg [(.sl a0)]))] [] ntext_k) = (fun (a0 : Option (List V)) => ntext a0) := by kernel_rfl
noncomputable def tab0_35 : ToldK := addTo tab0_34 36 ntext_e
theorem ntext_h : EntryOK tab0_34 code ntext_n FU 24 36 ntext_e := by
  intro args os t h
  unfold ntext_e at h
  split at h
  · rename_i os0 a0
    cases h
    exact ⟨_, _, fun p => (.str p), ntext_k, ids_all rfl, fun _ _ => rfl, (congrFun ntext_q _), fun sv os p hp => by
      unfold ntext_k at hp
      split at hp
      · have hp := dTy_ok hp
        split at hp
        · cases hp; exact ⟨rfl, rfl⟩
        · cases hp
      · cases hp⟩
  · cases h
/-! cubit/unit.one -/
noncomputable abbrev uone := Go.Ev.uone
noncomputable def uone_e : List SV → Objs → Option ((β : Type) → (SV → Objs → Option β) → Option β)
  | [], os => some fun _ K => (uone).bind fun p => K (.a (.v (.agg [(.sl p)]))) os
  | _, _ => none
noncomputable def uone_k (sv : SV) (os : Objs) : Option (Option (List V)) := match sv, os with
  | .a (.v v), [] => dTy (.t1 (.agg [.sl])) v fun v => (match v with | (.agg [(.sl r0)]) => some (r0) | _ => none)
  | _, _ => none
noncomputable def uone_n : FuncId → Nat → Ann := fun f n => match f, n with
  | _, _ => ⟨[], [], false⟩
theorem uone_q : (stN tab0_35 code uone_n FU 24 61 [] [] uone_k) = (uone) := by kernel_rfl
noncomputable def tab0_36 : ToldK := addTo tab0_35 61 uone_e
theorem uone_h : EntryOK tab0_35 code uone_n FU 24 61 uone_e := by
  intro args os t h
  unfold uone_e at h
  split at h
  · rename_i os0 
    cases h
    exact ⟨_, _, fun p => (.agg [(.sl p)]), uone_k, ids_all rfl, fun _ _ => rfl, uone_q, fun sv os p hp => by
      unfold uone_k at hp
      split at hp
      · have hp := dTy_ok hp
        split at hp
        · cases hp; exact ⟨rfl, rfl⟩
        · cases hp
      · cases hp⟩
  · cases h
/-! cubit/unit.ShowPart -/
noncomputable abbrev ushow := Go.Ev.ushow
noncomputable def ushow_e : List SV → Objs → Option ((β : Type) → (SV → Objs → Option β) → Option β)
  | [.a (.v (.agg [(.sl a0), (.sl a1), (.sl a2)]))], os => some fun _ K => (ushow a0 a1 a2).bind fun p => K (.a (.v (.str p))) os
  | _, _ => none
noncomputable def ushow_k (sv : SV) (os : Objs) : Option (List UInt8) := match sv, os with
  | .a (.v v), [] => dTy (.t1 (.k .str)) v fun v => (match v with | (.str r0) => some (r0) | _ => none)
  | _, _ => none
noncomputable def ushow_n : FuncId → Nat → Ann := fun f n => match f, n with
  | 31, 0 => ⟨[(14, (.t1 (.agg [.str, .str, (.int .i64)]))), (49, (.t1 (.agg [.str, .str, (.int .i64)])))], [⟨[⟨[.u, .a (.loc 0 0), .u, .a (.nil), .u, .u, .u, .u, .u, .u, .a (.h (.t1 (.k .sl))), .a (.h (.t1 (.k (.int .i64)))), .a (.h (.t1 (.k (.int .i64)))), .u, .u, .u, .u, .u, .u, .u, .u, .u, .u, .u, .u, .u, .u, .u, .u, .u, .u, .u, .u, .u, .u, .u, .u, .u, .u, .u, .u, .u, .u, .u, .u, .u, .u, .u, .u, .u, .u, .u, .u, .u, .u, .u, .u, .u, .u], [.box 54 [.h (.t1 (.k .sl)), .h (.t1 (.k .sl)), .h (.t1 (.k .sl))]]⟩, ⟨[.u, .a (.loc 0 0), .u, .a (.own 1), .u, .u, .u, .u, .u, .u, .a (.h (.t1 (.k .sl))), .a (.h (.t1 (.k (.int .i64)))), .a (.h (.t1 (.k (.int .i64)))), .u, .u, .u, .u, .u, .u, .u, .u, .u, .u, .u, .u, .u, .u, .u, .u, .u, .u, .u, .u, .u, .u, .u, .u, .u, .u, .u, .u, .u, .u, .u, .u, .u, .u, .u, .u, .u, .u, .u, .u, .u, .u, .u, .u, .u, .u], [.box 54 [.h (.t1 (.k .sl)), .h (.t1 (.k .sl)), .h (.t1 (.k .sl))], .ext 9 1]⟩], [((.ex 0), ⟨[.u, .a (.loc 0 0), .u, .a (.nil), .u, .u, .u, .u, .u, .u, .u, .u, .u, .u, .u, .u, .u, .u, .u, .u, .u, .u, .u, .u, .u, .u, .u, .u, .u, .u, .u, .u, .u, .u, .u, .u, .u, .u, .u, .u, .u, .u, .u, .u, .u, .u, .u, .u, .u, .u, .u, .u, .u, .u, .u, .u, .u, .u, .u], [.box 54 [.h (.t1 (.k .sl)), .h (.t1 (.k .sl)), .h (.t1 (.k .sl))]]⟩), ((.ex 0), ⟨[.u, .a (.loc 0 0), .u, .a (.own 1), .u, .u, .u, .u, .u, .u, .u, .u, .u, .u, .u, .u, .u, .u, .u, .u, .u, .u, .u, .u, .u, .u, .u, .u, .u, .u, .u, .u, .u, .u, .u, .u, .u, .u, .u, .u, .u, .u, .u, .u, .u, .u, .u, .u, .u, .u, .u, .u, .u, .u, .u, .u, .u, .u, .u], [.box 54 [.h (.t1 (.k .sl)), .h (.t1 (.k .sl)), .h (.t1 (.k .sl))], .ext 9 1]⟩)]⟩, ⟨[⟨[.u, .u, .u, .a (.nil), .u, .u, .u, .u, .u, .u, .u, .u, .u, .u, .u, .u, .u, .u, .u, .u, .u, .u, .u, .u, .u, .u, .u, .u, .u, .u, .u, .u, .u, .u, .u, .u, .u, .u, .u, .u, .u, .u, .u, .u, .u, .a (.h (.t1 (.k .sl))), .a (.h (.t1 (.k (.int .i64)))), .a (.h (.t1 (.k (.int .i64)))), .u, .u, .u, .u, .u, .u, .u, .u, .u, .u, .u], []⟩, ⟨[.u, .u, .u, .a (.own 0), .u, .u, .u, .u, .u, .u, .u, .u, .u, .u, .u, .u, .u, .u, .u, .u, .u, .u, .u, .u, .u, .u, .u, .u, .u, .u, .u, .u, .u, .u, .u, .u, .u, .u, .u, .u, .u, .u, .u, .u, .u, .a (.h (.t1 (.k .sl))), .a (.h (.t1 (.k (.int .i64)))), .a (.h (.t1 (.k (.int .i64)))), .u, .u, .u, .u, .u, .u, .u, .u, .u, .u, .u], [.ext 9 1]⟩], [((.ex 2), ⟨[.u, .u, .u, .a (.nil), .u, .u, .u, .u, .u, .u, .u, .u, .u, .u, .u, .u, .u, .u, .u, .u, .u, .u, .u, .u, .u, .u, .u, .u, .u, .u, .u, .u, .u, .u, .u, .u, .u, .u, .u, .u, .u, .u, .u, .u, .u, .u, .u, .u, .u, .u, .u, .u, .u, .u, .u, .u, .u, .u, .u], []⟩), ((.ex 2), ⟨[.u, .u, .u, .a (.own 0), .u, .u, .u, .u, .u, .u, .u, .u, .u, .u, .u, .u, .u, .u, .u, .u, .u, .u, .u, .u, .u, .u, .u, .u, .u, .u, .u, .u, .u, .u, .u, .u, .u, .u, .u, .u, .u, .u, .u, .u, .u, .u, .u, .u, .u, .u, .u, .u, .u, .u, .u, .u, .u, .u, .u], [.ext 9 1]⟩)]⟩], false⟩
  | _, _ => ⟨[], [], false⟩
theorem ushow_q : (fun (a0 : Option (List V)) (a1 : Option (List V)) (a2 : Option (List V)) => stN tab0_36 code ushow_n FU 24 31 [.a (.v (.agg [(.sl a0), (.sl a1), (.sl a2)]))] [] ushow_k) = (fun (a0 : Option (List V)) (a1 : Option (List V)) (a2 : Option (List V)) => ushow a0 a1 a2) := by kernel_rfl
noncomputable def tab0_37 : ToldK := addTo tab0_36 31 ushow_e
theorem ushow_h : EntryOK tab0_36 code ushow_n FU 24 31 ushow_e := by
  intro args os t h
  unfold ushow_e at h
  split at h
  · rename_i os0 a0 a1 a2
    cases h
    exact ⟨_, _, fun p => (.str p), ushow_k, ids_all rfl, fun _ _ => rfl, (congrFun (congrFun (congrFun ushow_q _) _) _), fun sv os p hp => by
      unfold ushow_k at hp
      split at hp
      · have hp := dTy_ok hp
        split at hp
        · cases hp; exact ⟨rfl, rfl⟩
        · cases hp
      · cases hp⟩
  · cases h
/-! (cubit/compose.How).word -/
noncomputable abbrev hword := Go.Ev.hword
noncomputable def hword_e : List SV → Objs → Option ((β : Type) → (SV → Objs → Option β) → Option β)
  | [.a (.v (.agg [(.str a0), (.str a1), (.str a2), (.str a3)])), .a (.v (.pt a4)), .a (.v (.str a5))], os => some fun _ K => (hword a0 a1 a2 a3 a4 a5).bind fun p => K (.a (.v (.tup [(.str p.1), (.bool p.2)]))) os
  | _, _ => none
noncomputable def hword_k (sv : SV) (os : Objs) : Option (List UInt8 × Bool) := match sv, os with
  | .a (.v v), [] => dTy (.tup [(.k .str), (.k .bool)]) v fun v => (match v with | (.tup [(.str r0), (.bool r1)]) => some (r0, r1) | _ => none)
  | _, _ => none
noncomputable def hword_n : FuncId → Nat → Ann := fun f n => match f, n with
  | _, _ => ⟨[], [], false⟩
theorem hword_q : (fun (a0 : List UInt8) (a1 : List UInt8) (a2 : List UInt8) (a3 : List UInt8) (a4 : Option (List V)) (a5 : List UInt8) => stN tab0_37 code hword_n FU 24 30 [.a (.v (.agg [(.str a0), (.str a1), (.str a2), (.str a3)])), .a (.v (.pt a4)), .a (.v (.str a5))] [] hword_k) = (fun (a0 : List UInt8) (a1 : List UInt8) (a2 : List UInt8) (a3 : List UInt8) (a4 : Option (List V)) (a5 : List UInt8) => hword a0 a1 a2 a3 a4 a5) := by kernel_rfl
noncomputable def tab0_38 : ToldK := addTo tab0_37 30 hword_e
theorem hword_h : EntryOK tab0_37 code hword_n FU 24 30 hword_e := by
  intro args os t h
  unfold hword_e at h
  split at h
  · rename_i os0 a0 a1 a2 a3 a4 a5
    cases h
    exact ⟨_, _, fun p => (.tup [(.str p.1), (.bool p.2)]), hword_k, ids_all rfl, fun _ _ => rfl, (congrFun (congrFun (congrFun (congrFun (congrFun (congrFun hword_q _) _) _) _) _) _), fun sv os p hp => by
      unfold hword_k at hp
      split at hp
      · have hp := dTy_ok hp
        split at hp
        · cases hp; exact ⟨rfl, rfl⟩
        · cases hp
      · cases hp⟩
  · cases h
/-! (cubit/compose.How).fill -/
noncomputable abbrev hfill := Go.Ev.hfill
noncomputable def hfill_e : List SV → Objs → Option ((β : Type) → (SV → Objs → Option β) → Option β)
  | [.a (.v (.agg [(.str a0), (.str a1), (.str a2), (.str a3)])), .a (.v (.pt a4)), .a (.v (.str a5)), .a (.v (.str a6)), .a (.v (.str a7)), .a (.v (.sl a8))], os => some fun _ K => (hfill a0 a1 a2 a3 a4 a5 a6 a7 a8).bind fun p => K (.a (.v (.tup [(.str p.1), (.int .i64 p.2)]))) os
  | _, _ => none
noncomputable def hfill_k (sv : SV) (os : Objs) : Option (List UInt8 × Int) := match sv, os with
  | .a (.v v), [] => dTy (.tup [(.k .str), (.k (.int .i64))]) v fun v => (match v with | (.tup [(.str r0), (.int .i64 r1)]) => some (r0, r1) | _ => none)
  | _, _ => none
noncomputable def hfill_n : FuncId → Nat → Ann := fun f n => match f, n with
  | _, _ => ⟨[], [], false⟩
theorem hfill_q : (fun (a0 : List UInt8) (a1 : List UInt8) (a2 : List UInt8) (a3 : List UInt8) (a4 : Option (List V)) (a5 : List UInt8) (a6 : List UInt8) (a7 : List UInt8) (a8 : Option (List V)) => stN tab0_38 code hfill_n FU 24 37 [.a (.v (.agg [(.str a0), (.str a1), (.str a2), (.str a3)])), .a (.v (.pt a4)), .a (.v (.str a5)), .a (.v (.str a6)), .a (.v (.str a7)), .a (.v (.sl a8))] [] hfill_k) = (fun (a0 : List UInt8) (a1 : List UInt8) (a2 : List UInt8) (a3 : List UInt8) (a4 : Option (List V)) (a5 : List UInt8) (a6 : List UInt8) (a7 : List UInt8) (a8 : Option (List V)) => hfill a0 a1 a2 a3 a4 a5 a6 a7 a8) := by kernel_rfl
noncomputable def tab0_39 : ToldK := addTo tab0_38 37 hfill_e
theorem hfill_h : EntryOK tab0_38 code hfill_n FU 24 37 hfill_e := by
  intro args os t h
  unfold hfill_e at h
  split at h
  · rename_i os0 a0 a1 a2 a3 a4 a5 a6 a7 a8
    cases h
    exact ⟨_, _, fun p => (.tup [(.str p.1), (.int .i64 p.2)]), hfill_k, ids_all rfl, fun _ _ => rfl, (congrFun (congrFun (congrFun (congrFun (congrFun (congrFun (congrFun (congrFun (congrFun hfill_q _) _) _) _) _) _) _) _) _), fun sv os p hp => by
      unfold hfill_k at hp
      split at hp
      · have hp := dTy_ok hp
        split at hp
        · cases hp; exact ⟨rfl, rfl⟩
        · cases hp
      · cases hp⟩
  · cases h
/-! (cubit/compose.How).one -/
noncomputable abbrev hone := Go.Ev.hone
noncomputable def hone_e : List SV → Objs → Option ((β : Type) → (SV → Objs → Option β) → Option β)
  | [.a (.v (.agg [(.str a0), (.str a1), (.str a2), (.str a3)]))], os => some fun _ K => (hone a0 a1 a2 a3).bind fun p => K (.a (.v (.agg [(.str p.1), (.str p.2.1), (.str p.2.2.1), (.str p.2.2.2)]))) os
  | _, _ => none
noncomputable def hone_k (sv : SV) (os : Objs) : Option (List UInt8 × List UInt8 × List UInt8 × List UInt8) := match sv, os with
  | .a (.v v), [] => dTy (.t1 (.agg [.str, .str, .str, .str])) v fun v => (match v with | (.agg [(.str r0), (.str r1), (.str r2), (.str r3)]) => some (r0, r1, r2, r3) | _ => none)
  | _, _ => none
noncomputable def hone_n : FuncId → Nat → Ann := fun f n => match f, n with
  | _, _ => ⟨[], [], false⟩
theorem hone_q : (fun (a0 : List UInt8) (a1 : List UInt8) (a2 : List UInt8) (a3 : List UInt8) => stN tab0_39 code hone_n FU 24 34 [.a (.v (.agg [(.str a0), (.str a1), (.str a2), (.str a3)]))] [] hone_k) = (fun (a0 : List UInt8) (a1 : List UInt8) (a2 : List UInt8) (a3 : List UInt8) => hone a0 a1 a2 a3) := by kernel_rfl
noncomputable def tab0_40 : ToldK := addTo tab0_39 34 hone_e
theorem hone_h : EntryOK tab0_39 code hone_n FU 24 34 hone_e := by
  intro args os t h
  unfold hone_e at h
  split at h
  · rename_i os0 a0 a1 a2 a3
    cases h
    exact ⟨_, _, fun p => (.agg [(.str p.1), (.str p.2.1), (.str p.2.2.1), (.str p.2.2.2)]), hone_k, ids_all rfl, fun _ _ => rfl, (congrFun (congrFun (congrFun (congrFun hone_q _) _) _) _), fun sv os p hp => by
      unfold hone_k at hp
      split at hp
      · have hp := dTy_ok hp
        split at hp
        · cases hp; exact ⟨rfl, rfl⟩
        · cases hp
      · cases hp⟩
  · cases h
/-! cubit/compose.Atom -/
noncomputable abbrev catom := Go.Ev.catom
noncomputable def catom_e : List SV → Objs → Option ((β : Type) → (SV → Objs → Option β) → Option β)
  | [.a (.v (.pt a0)), .a (.v (.pt a1)), .a (.v (.agg [(.str a2), (.str a3), (.str a4), (.str a5)])), .a (.v (.agg [(.str a6), (.str a7), (.int .i64 a8)]))], os => some fun _ K => (catom a0 a1 a2 a3 a4 a5 a6 a7 a8).bind fun p => K (.a (.v (.tup [(.str p.1), (.int .i64 p.2)]))) os
  | _, _ => none
noncomputable def catom_k (sv : SV) (os : Objs) : Option (List UInt8 × Int) := match sv, os with
  | .a (.v v), [] => dTy (.tup [(.k .str), (.k (.int .i64))]) v fun v => (match v with | (.tup [(.str r0), (.int .i64 r1)]) => some (r0, r1) | _ => none)
  | _, _ => none
noncomputable def catom_n : FuncId → Nat → Ann := fun f n => match f, n with
  | _, _ => ⟨[], [], false⟩
theorem catom_q : (fun (a0 : Option (List V)) (a1 : Option (List V)) (a2 : List UInt8) (a3 : List UInt8) (a4 : List UInt8) (a5 : List UInt8) (a6 : List UInt8) (a7 : List UInt8) (a8 : Int) => stN tab0_40 code catom_n FU 24 17 [.a (.v (.pt a0)), .a (.v (.pt a1)), .a (.v (.agg [(.str a2), (.str a3), (.str a4), (.str a5)])), .a (.v (.agg [(.str a6), (.str a7), (.int .i64 a8)]))] [] catom_k) = (fun (a0 : Option (List V)) (a1 : Option (List V)) (a2 : List UInt8) (a3 : List UInt8) (a4 : List UInt8) (a5 : List UInt8) (a6 : List UInt8) (a7 : List UInt8) (a8 : Int) => catom a0 a1 a2 a3 a4 a5 a6 a7 a8) := by kernel_rfl
noncomputable def tab0_41 : ToldK := addTo tab0_40 17 catom_e
theorem catom_h : EntryOK tab0_40 code catom_n FU 24 17 catom_e := by
  intro args os t h
  unfold catom_e at h
  split at h
  · rename_i os0 a0 a1 a2 a3 a4 a5 a6 a7 a8
    cases h
    exact ⟨_, _, fun p => (.tup [(.str p.1), (.int .i64 p.2)]), catom_k, ids_all rfl, fun _ _ => rfl, (congrFun (congrFun (congrFun (congrFun (congrFun (congrFun (congrFun (congrFun (congrFun catom_q _) _) _) _) _) _) _) _) _), fun sv os p hp => by
      unfold catom_k at hp
      split at hp
      · have hp := dTy_ok hp
        split at hp
        · cases hp; exact ⟨rfl, rfl⟩
        · cases hp
      · cases hp⟩
  · cases h
/-! cubit/compose.Row -/
noncomputable abbrev crow := Go.Ev.crow
noncomputable def crow_e : List SV → Objs → Option ((β : Type) → (SV → Objs → Option β) → Option β)
  | [.a (.v (.pt a0)), .a (.v (.pt a1)), .a (.v (.agg [(.str a2), (.str a3), (.str a4), (.str a5)])), .a (.v (.sl a6))], os => some fun _ K => (crow a0 a1 a2 a3 a4 a5 a6).bind fun p => K (.a (.v (.tup [(.str p.1), (.int .i64 p.2)]))) os
  | _, _ => none
noncomputable def crow_k (sv : SV) (os : Objs) : Option (List UInt8 × Int) := match sv, os with
  | .a (.v v), [] => dTy (.tup [(.k .str), (.k (.int .i64))]) v fun v => (match v with | (.tup [(.str r0), (.int .i64 r1)]) => some (r0, r1) | _ => none)
  | _, _ => none
noncomputable def crow_n : FuncId → Nat → Ann := fun f n => match f, n with
  | 33, 0 => ⟨[(21, (.t1 (.agg [.str, .str, (.int .i64)])))], [⟨[⟨[.a (.h (.t1 (.k .pt))), .a (.h (.t1 (.k .pt))), .u, .a (.h (.t1 (.k .sl))), .u, .u, .a (.loc 0 0), .u, .u, .u, .a (.h (.t1 (.k .str))), .u, .u, .u, .u, .u, .a (.h (.t1 (.k .sl))), .a (.h (.t1 (.k (.int .i64)))), .a (.h (.t1 (.k (.int .i64)))), .u, .u, .u, .u, .u, .u, .u, .u, .u, .u, .u, .u, .u, .u, .u, .u, .u, .u, .u, .u, .u, .u, .u, .u, .u, .u, .u, .u, .u, .u, .u, .u, .u, .u, .u, .u, .u, .u, .u, .u, .u], [.box 33 [.h (.t1 (.k .str)), .h (.t1 (.k .str)), .h (.t1 (.k .str)), .h (.t1 (.k .str))]]⟩], [(.ret, ⟨[.u, .u, .u, .u, .u, .u, .u, .u, .a (.h (.t1 (.k .str))), .a (.h (.t1 (.k (.int .i64)))), .u, .u, .u, .u, .u, .u, .u, .u, .u, .u, .u, .u, .u, .u, .u, .u, .u, .u, .u, .u, .u, .u, .u, .u, .u, .u, .u, .u, .u, .u, .u, .u, .u, .u, .u, .u, .u, .u, .u, .u, .u, .u, .u, .u, .u, .u, .u, .u, .u, .u], []⟩), ((.ex 0), ⟨[.u, .u, .u, .u, .u, .u, .u, .u, .u, .u, .a (.h (.t1 (.k .str))), .u, .u, .u, .u, .u, .u, .u, .u, .u, .u, .u, .u, .u, .u, .u, .u, .u, .u, .u, .u, .u, .u, .u, .u, .u, .u, .u, .u, .u, .u, .u, .u, .u, .u, .u, .u, .u, .u, .u, .u, .u, .u, .u, .u, .u, .u, .u, .u, .u], []⟩)]⟩], false⟩
  | _, _ => ⟨[], [], false⟩
theorem crow_q : (fun (a0 : Option (List V)) (a1 : Option (List V)) (a2 : List UInt8) (a3 : List UInt8) (a4 : List UInt8) (a5 : List UInt8) (a6 : Option (List V)) => stN tab0_41 code crow_n FU 24 33 [.a (.v (.pt a0)), .a (.v (.pt a1)), .a (.v (.agg [(.str a2), (.str a3), (.str a4), (.str a5)])), .a (.v (.sl a6))] [] crow_k) = (fun (a0 : Option (List V)) (a1 : Option (List V)) (a2 : List UInt8) (a3 : List UInt8) (a4 : List UInt8) (a5 : List UInt8) (a6 : Option (List V)) => crow a0 a1 a2 a3 a4 a5 a6) := by kernel_rfl
noncomputable def tab0_42 : ToldK := addTo tab0_41 33 crow_e
theorem crow_h : EntryOK tab0_41 code crow_n FU 24 33 crow_e := by
  intro args os t h
  unfold crow_e at h
  split at h
  · rename_i os0 a0 a1 a2 a3 a4 a5 a6
    cases h
    exact ⟨_, _, fun p => (.tup [(.str p.1), (.int .i64 p.2)]), crow_k, ids_all rfl, fun _ _ => rfl, (congrFun (congrFun (congrFun (congrFun (congrFun (congrFun (congrFun crow_q _) _) _) _) _) _) _), fun sv os p hp => by
      unfold crow_k at hp
      split at hp
      · have hp := dTy_ok hp
        split at hp
        · cases hp; exact ⟨rfl, rfl⟩
        · cases hp
      · cases hp⟩
  · cases h
/-! cubit/compose.Part -/
noncomputable abbrev cpart := Go.Ev.cpart
noncomputable def cpart_e : List SV → Objs → Option ((β : Type) → (SV → Objs → Option β) → Option β)
  | [.a (.v (.pt a0)), .a (.v (.pt a1)), .a (.v (.agg [(.str a2), (.str a3), (.str a4), (.str a5)])), .a (.v (.agg [(.sl a6), (.sl a7), (.sl a8)]))], os => some fun _ K => (cpart a0 a1 a2 a3 a4 a5 a6 a7 a8).bind fun p => K (.a (.v (.tup [(.str p.1), (.int .i64 p.2)]))) os
  | _, _ => none
noncomputable def cpart_k (sv : SV) (os : Objs) : Option (List UInt8 × Int) := match sv, os with
  | .a (.v v), [] => dTy (.tup [(.k .str), (.k (.int .i64))]) v fun v => (match v with | (.tup [(.str r0), (.int .i64 r1)]) => some (r0, r1) | _ => none)
  | _, _ => none
noncomputable def cpart_n : FuncId → Nat → Ann := fun f n => match f, n with
  | 42, 3 => ⟨[], [⟨[⟨[.a (.h (.t1 (.k .str))), .a (.h (.t1 (.k (.int .u8)))), .u, .u, .u, .u, .u, .u, .u, .u, .u, .u, .u, .u, .u, .u, .u, .u, .u, .u, .u, .u, .u], [.no, .no, .no]⟩], [((.ex 0), ⟨[.a (.h (.t1 (.k .str))), .u, .u, .u, .u, .u, .u, .u, .u, .u, .u, .u, .u, .u, .u, .u, .u, .u, .u, .u, .u, .u, .u], [.no, .no, .no]⟩)]⟩], false⟩
  | 41, 3 => ⟨[], [⟨[⟨[.a (.h (.t1 (.k .str))), .a (.h (.t1 (.k (.int .u8)))), .u, .u, .u, .u, .u, .u, .u, .u, .u, .u, .u, .u, .u, .u, .u], [.no, .no, .no]⟩], [((.ex 0), ⟨[.a (.h (.t1 (.k .str))), .u, .u, .u, .u, .u, .u, .u, .u, .u, .u, .u, .u, .u, .u, .u, .u], [.no, .no, .no]⟩)]⟩], false⟩
  | _, _ => ⟨[], [], false⟩
theorem cpart_q : (fun (a0 : Option (List V)) (a1 : Option (List V)) (a2 : List UInt8) (a3 : List UInt8) (a4 : List UInt8) (a5 : List UInt8) (a6 : Option (List V)) (a7 : Option (List V)) (a8 : Option (List V)) => stN tab0_42 code cpart_n FU 24 15 [.a (.v (.pt a0)), .a (.v (.pt a1)), .a (.v (.agg [(.str a2), (.str a3), (.str a4), (.str a5)])), .a (.v (.agg [(.sl a6), (.sl a7), (.sl a8)]))] [] cpart_k) = (fun (a0 : Option (List V)) (a1 : Option (List V)) (a2 : List UInt8) (a3 : List UInt8) (a4 : List UInt8) (a5 : List UInt8) (a6 : Option (List V)) (a7 : Option (List V)) (a8 : Option (List V)) => cpart a0 a1 a2 a3 a4 a5 a6 a7 a8) := by kernel_rfl
noncomputable def tab0_43 : ToldK := addTo tab0_42 15 cpart_e
theorem cpart_h : EntryOK tab0_42 code cpart_n FU 24 15 cpart_e := by
  intro args os t h
  unfold cpart_e at h
  split at h
  · rename_i os0 a0 a1 a2 a3 a4 a5 a6 a7 a8
    cases h
    exact ⟨_, _, fun p => (.tup [(.str p.1), (.int .i64 p.2)]), cpart_k, ids_all rfl, fun _ _ => rfl, (congrFun (congrFun (congrFun (congrFun (congrFun (congrFun (congrFun (congrFun (congrFun cpart_q _) _) _) _) _) _) _) _) _), fun sv os p hp => by
      unfold cpart_k at hp
      split at hp
      · have hp := dTy_ok hp
        split at hp
        · cases hp; exact ⟨rfl, rfl⟩
        · cases hp
      · cases hp⟩
  · cases h
/-! cubit/cubitlaw24.heavy -/
noncomputable abbrev heavy24 := Go.Ev.heavy
noncomputable def heavy24_e : List SV → Objs → Option ((β : Type) → (SV → Objs → Option β) → Option β)
  | [.a (.v (.sl a0))], os => some fun _ K => (heavy24 a0).bind fun p => K (.a (.v (.bool p))) os
  | _, _ => none
noncomputable def heavy24_k (sv : SV) (os : Objs) : Option (Bool) := match sv, os with
  | .a (.v v), [] => dTy (.t1 (.k .bool)) v fun v => (match v with | (.bool r0) => some (r0) | _ => none)
  | _, _ => none
noncomputable def heavy24_n : FuncId → Nat → Ann := fun f n => match f, n with
  | 10, 0 => ⟨[(16, (.t1 (.agg [(.int .i64), .sl]))), (24, (.t1 (.agg [(.int .i64), .sl]))), (33, (.t1 (.agg [(.int .i64), .sl]))), (37, (.t1 (.k .str)))], [⟨[⟨[.a (.h (.t1 (.k .sl))), .u, .u, .a (.h (.t1 (.k (.int .i64)))), .u, .u, .u, .u, .u, .u, .u, .u, .u, .u, .u, .u, .u, .u, .u, .u, .u, .u, .u, .u, .u, .u, .u, .u, .u, .u, .u, .u, .u, .u, .u, .u, .u, .u, .u, .u, .u], []⟩], [(.ret, ⟨[.u, .u, .a (.h (.t1 (.k .bool))), .u, .u, .u, .u, .u, .u, .u, .u, .u, .u, .u, .u, .u, .u, .u, .u, .u, .u, .u, .u, .u, .u, .u, .u, .u, .u, .u, .u, .u, .u, .u, .u, .u, .u, .u, .u, .u, .u], []⟩), ((.ex 0), ⟨[.u, .u, .u, .u, .u, .u, .u, .u, .u, .u, .u, .u, .u, .u, .u, .u, .u, .u, .u, .u, .u, .u, .u, .u, .u, .u, .u, .u, .u, .u, .u, .u, .u, .u, .u, .u, .u, .u, .u, .u, .u], []⟩)]⟩, ⟨[⟨[.a (.h (.t1 (.k .sl))), .u, .u, .a (.h (.t1 (.k (.int .i64)))), .a (.h (.t1 (.k (.int .i64)))), .u, .u, .u, .u, .u, .u, .u, .u, .u, .u, .u, .u, .u, .u, .u, .u, .u, .u, .u, .u, .u, .u, .u, .u, .u, .u, .u, .u, .u, .u, .u, .u, .u, .u, .u, .u], []⟩], [(.ret, ⟨[.u, .u, .a (.h (.t1 (.k .bool))), .u, .u, .u, .u, .u, .u, .u, .u, .u, .u, .u, .u, .u, .u, .u, .u, .u, .u, .u, .u, .u, .u, .u, .u, .u, .u, .u, .u, .u, .u, .u, .u, .u, .u, .u, .u, .u, .u], []⟩), ((.ex 2), ⟨[.a (.h (.t1 (.k .sl))), .u, .u, .a (.h (.t1 (.k (.int .i64)))), .u, .u, .u, .u, .u, .u, .u, .u, .u, .u, .u, .u, .u, .u, .u, .u, .u, .u, .u, .u, .u, .u, .u, .u, .u, .u, .u, .u, .u, .u, .u, .u, .u, .u, .u, .u, .u], []⟩)]⟩], false⟩
  | _, _ => ⟨[], [], false⟩
theorem heavy24_q : (fun (a0 : Option (List V)) => stN tab0_43 code heavy24_n FU 24 10 [.a (.v (.sl a0))] [] heavy24_k) = (fun (a0 : Option (List V)) => heavy24 a0) := by kernel_rfl
noncomputable def tab0_44 : ToldK := addTo tab0_43 10 heavy24_e
theorem heavy24_h : EntryOK tab0_43 code heavy24_n FU 24 10 heavy24_e := by
  intro args os t h
  unfold heavy24_e at h
  split at h
  · rename_i os0 a0
    cases h
    exact ⟨_, _, fun p => (.bool p), heavy24_k, ids_all rfl, fun _ _ => rfl, (congrFun heavy24_q _), fun sv os p hp => by
      unfold heavy24_k at hp
      split at hp
      · have hp := dTy_ok hp
        split at hp
        · cases hp; exact ⟨rfl, rfl⟩
        · cases hp
      · cases hp⟩
  · cases h
/-! cubit/cubitlaw24.has -/
noncomputable def has24_L0 (v : Vs) : Option (Vs ⊕ Vs) := sel v.1 [((asStr? (hV v.2 0)).bind fun x0 =>
((asInt? .i64 (hV v.2 1)).bind fun x1 =>
(cond (decide (x1 < (((x0 : List UInt8).length : Nat) : Int)))
((idxL x0 x1).bind fun x2 =>
(cond (((x2.toNat : Nat) : Int) == 123)
(some (.inr (0, [(.v (.bool true))])))
(some (.inl (0, [(.v (.str x0)), (.v (.int .i64 (IntKind.wrap .i64 (x1 + 1))))])))))
(some (.inr (1, []))))))]
noncomputable def has24 (a0 : List UInt8) : Option (Bool) :=
((loopK has24_L0 FU (0, [(.v (.str a0)), (.v (.int .i64 0))])).bind fun x3 => sel x3.1 [((asBool? (hV x3.2 0)).bind fun x4 =>
(some (x4))),
(some (false))])
noncomputable def has24_e : List SV → Objs → Option ((β : Type) → (SV → Objs → Option β) → Option β)
  | [.a (.v (.str a0))], os => some fun _ K => (has24 a0).bind fun p => K (.a (.v (.bool p))) os
  | _, _ => none
noncomputable def has24_k (sv : SV) (os : Objs) : Option (Bool) := match sv, os with
  | .a (.v v), [] => dTy (.t1 (.k .bool)) v fun v => (match v with | (.bool r0) => some (r0) | _ => none)
  | _, _ => none
noncomputable def has24_n : FuncId → Nat → Ann := fun f n => match f, n with
  | 8, 0 => ⟨[], [⟨[⟨[.a (.h (.t1 (.k .str))), .u, .u, .a (.h (.t1 (.k (.int .i64)))), .u, .u, .u, .u, .u, .u, .u, .u, .u, .u], []⟩], [(.ret, ⟨[.u, .u, .a (.h (.t1 (.k .bool))), .u, .u, .u, .u, .u, .u, .u, .u, .u, .u, .u], []⟩), ((.ex 0), ⟨[.u, .u, .u, .u, .u, .u, .u, .u, .u, .u, .u, .u, .u, .u], []⟩)]⟩], false⟩
  | _, _ => ⟨[], [], false⟩
theorem has24_q : (fun (a0 : List UInt8) => stN tab0_44 code has24_n FU 24 8 [.a (.v (.str a0))] [] has24_k) = (fun (a0 : List UInt8) => has24 a0) := by kernel_rfl
noncomputable def tab0_45 : ToldK := addTo tab0_44 8 has24_e
theorem has24_h : EntryOK tab0_44 code has24_n FU 24 8 has24_e := by
  intro args os t h
  unfold has24_e at h
  split at h
  · rename_i os0 a0
    cases h
    exact ⟨_, _, fun p => (.bool p), has24_k, ids_all rfl, fun _ _ => rfl, (congrFun has24_q _), fun sv os p hp => by
      unfold has24_k at hp
      split at hp
      · have hp := dTy_ok hp
        split at hp
        · cases hp; exact ⟨rfl, rfl⟩
        · cases hp
      · cases hp⟩
  · cases h
/-! cubit/cubitlaw24.load -/
noncomputable def load24 (a0 : List UInt8) : Option (Option (List V) × Option (List V)) :=
((rparse a0).bind fun x0 =>
(cond (x0.2.2 != 0)
(some (none, none))
((pload x0.1).bind fun x1 =>
((gload x0.1).bind fun x2 =>
(cond (x1.2.2 != 0)
(some (none, none))
(cond (x2.2.2 != 0)
(some (none, none))
(some (x1.1, x2.1))))))))
noncomputable def load24_e : List SV → Objs → Option ((β : Type) → (SV → Objs → Option β) → Option β)
  | [.a (.v (.str a0))], os => some fun _ K => (load24 a0).bind fun p => K (.a (.v (.tup [(.pt p.1), (.pt p.2)]))) os
  | _, _ => none
noncomputable def load24_k (sv : SV) (os : Objs) : Option (Option (List V) × Option (List V)) := match sv, os with
  | .a (.v v), [] => dTy (.tup [(.k .pt), (.k .pt)]) v fun v => (match v with | (.tup [(.pt r0), (.pt r1)]) => some (r0, r1) | _ => none)
  | _, _ => none
noncomputable def load24_n : FuncId → Nat → Ann := fun f n => match f, n with
  | _, _ => ⟨[], [], false⟩
theorem load24_q : (fun (a0 : List UInt8) => stN tab0_45 code load24_n FU 24 18 [.a (.v (.str a0))] [] load24_k) = (fun (a0 : List UInt8) => load24 a0) := by kernel_rfl
noncomputable def tab0_46 : ToldK := addTo tab0_45 18 load24_e
theorem load24_h : EntryOK tab0_45 code load24_n FU 24 18 load24_e := by
  intro args os t h
  unfold load24_e at h
  split at h
  · rename_i os0 a0
    cases h
    exact ⟨_, _, fun p => (.tup [(.pt p.1), (.pt p.2)]), load24_k, ids_all rfl, fun _ _ => rfl, (congrFun load24_q _), fun sv os p hp => by
      unfold load24_k at hp
      split at hp
      · have hp := dTy_ok hp
        split at hp
        · cases hp; exact ⟨rfl, rfl⟩
        · cases hp
      · cases hp⟩
  · cases h
/-! cubit/cubitlaw24.part -/
noncomputable def part24 (a0 : Option (List V)) (a1 : Option (List V)) (a2 : Int) (a3 : List UInt8) : Option (List UInt8) :=
((load24 [112, 108, 117, 114, 97, 108, 32, 101, 110, 32, 111, 110, 101, 32, 105, 32, 61, 32, 49, 32, 97, 110, 100, 32, 118, 32, 61, 32, 48, 10, 119, 111, 114, 100, 32, 101, 110, 32, 108, 111, 110, 103, 32, 109, 101, 116, 101, 114, 32, 111, 110, 101, 32, 45, 32, 123, 48, 125, 95, 109, 101, 116, 101, 114, 10, 119, 111, 114, 100, 32, 101, 110, 32, 108, 111, 110, 103, 32, 109, 101, 116, 101, 114, 32, 111, 116, 104, 101, 114, 32, 45, 32, 123, 48, 125, 95, 109, 101, 116, 101, 114, 115, 10, 119, 111, 114, 100, 32, 101, 110, 32, 108, 111, 110, 103, 32, 102, 111, 111, 116, 32, 111, 110, 101, 32, 45, 32, 123, 48, 125, 95, 102, 111, 111, 116, 10, 119, 111, 114, 100, 32, 101, 110, 32, 108, 111, 110, 103, 32, 102, 111, 111, 116, 32, 111, 116, 104, 101, 114, 32, 45, 32, 123, 48, 125, 95, 102, 101, 101, 116, 10, 119, 111, 114, 100, 32, 101, 110, 32, 108, 111, 110, 103, 32, 105, 110, 99, 104, 32, 111, 116, 104, 101, 114, 32, 45, 32, 123, 48, 125, 95, 105, 110, 99, 104, 101, 115, 10, 119, 111, 114, 100, 32, 101, 110, 32, 108, 111, 110, 103, 32, 115, 101, 99, 111, 110, 100, 32, 111, 110, 101, 32, 45, 32, 123, 48, 125, 95, 115, 101, 99, 111, 110, 100, 10, 119, 111, 114, 100, 32, 101, 110, 32, 108, 111, 110, 103, 32, 115, 101, 99, 111, 110, 100, 32, 111, 116, 104, 101, 114, 32, 45, 32, 123, 48, 125, 95, 115, 101, 99, 111, 110, 100, 115, 10, 119, 111, 114, 100, 32, 101, 110, 32, 115, 104, 111, 114, 116, 32, 109, 101, 116, 101, 114, 32, 111, 116, 104, 101, 114, 32, 45, 32, 123, 48, 125, 95, 109, 10, 119, 111, 114, 100, 32, 101, 110, 32, 108, 111, 110, 103, 32, 102, 97, 104, 114, 101, 110, 104, 101, 105, 116, 32, 111, 116, 104, 101, 114, 32, 45, 32, 123, 48, 125, 95, 100, 101, 103, 114, 101, 101, 115, 95, 70, 97, 104, 114, 101, 110, 104, 101, 105, 116, 10, 119, 111, 114, 100, 32, 101, 110, 32, 108, 111, 110, 103, 32, 99, 101, 108, 115, 105, 117, 115, 32, 111, 116, 104, 101, 114, 32, 45, 32, 123, 48, 125, 95, 100, 101, 103, 114, 101, 101, 115, 95, 67, 101, 108, 115, 105, 117, 115, 10, 112, 114, 101, 102, 105, 120, 101, 100, 32, 101, 110, 32, 108, 111, 110, 103, 32, 107, 105, 108, 111, 32, 107, 105, 108, 111, 123, 48, 125, 10, 112, 111, 119, 101, 114, 32, 101, 110, 32, 108, 111, 110, 103, 32, 50, 32, 45, 32, 115, 113, 117, 97, 114, 101, 95, 123, 48, 125, 10, 112, 101, 114, 32, 101, 110, 32, 108, 111, 110, 103, 32, 123, 48, 125, 95, 112, 101, 114, 95, 123, 49, 125, 10, 116, 105, 109, 101, 115, 32, 101, 110, 32, 108, 111, 110, 103, 32, 123, 48, 125, 45, 123, 49, 125, 10, 108, 105, 115, 116, 32, 101, 110, 32, 108, 111, 110, 103, 32, 123, 48, 125, 44, 95, 123, 49, 125, 32, 123, 48, 125, 44, 95, 123, 49, 125, 32, 123, 48, 125, 44, 95, 123, 49, 125, 32, 123, 48, 125, 44, 95, 123, 49, 125, 10]).bind fun x0 =>
(cond (x0.1.isNone)
(some ([63]))
(cond (x0.2.isNone)
(some ([63]))
((nof a2).bind fun x1 =>
((cpart x0.1 x0.2 [101, 110] [108, 111, 110, 103] a3 [] a0 a1 x1).bind fun x2 =>
(cond (x2.2 == 9)
(some ([69]))
(some (x2.1))))))))
noncomputable def part24_e : List SV → Objs → Option ((β : Type) → (SV → Objs → Option β) → Option β)
  | [.a (.v (.sl a0)), .a (.v (.sl a1)), .a (.v (.int .u64 a2)), .a (.v (.str a3))], os => some fun _ K => (part24 a0 a1 a2 a3).bind fun p => K (.a (.v (.str p))) os
  | _, _ => none
noncomputable def part24_k (sv : SV) (os : Objs) : Option (List UInt8) := match sv, os with
  | .a (.v v), [] => dTy (.t1 (.k .str)) v fun v => (match v with | (.str r0) => some (r0) | _ => none)
  | _, _ => none
noncomputable def part24_n : FuncId → Nat → Ann := fun f n => match f, n with
  | _, _ => ⟨[], [], false⟩
theorem part24_q : (fun (a0 : Option (List V)) (a1 : Option (List V)) (a2 : Int) (a3 : List UInt8) => stN tab0_46 code part24_n FU 24 9 [.a (.v (.sl a0)), .a (.v (.sl a1)), .a (.v (.int .u64 a2)), .a (.v (.str a3))] [] part24_k) = (fun (a0 : Option (List V)) (a1 : Option (List V)) (a2 : Int) (a3 : List UInt8) => part24 a0 a1 a2 a3) := by kernel_rfl
noncomputable def tab0_47 : ToldK := addTo tab0_46 9 part24_e
theorem part24_h : EntryOK tab0_46 code part24_n FU 24 9 part24_e := by
  intro args os t h
  unfold part24_e at h
  split at h
  · rename_i os0 a0 a1 a2 a3
    cases h
    exact ⟨_, _, fun p => (.str p), part24_k, ids_all rfl, fun _ _ => rfl, (congrFun (congrFun (congrFun (congrFun part24_q _) _) _) _), fun sv os p hp => by
      unfold part24_k at hp
      split at hp
      · have hp := dTy_ok hp
        split at hp
        · cases hp; exact ⟨rfl, rfl⟩
        · cases hp
      · cases hp⟩
  · cases h
end Go.Proofs.YtmlhdhndjgdoaaaGreatDoor.cp
