/- The staged evaluator over the program, in normal form: printed by a program (sym.lean), each held against it by the kernel. -/
import Derived.Test.YtbppinniokmdnaaDoorCuGdL
namespace Go.Proofs.YtbppinniokmdnaaDoor.gd
open Go Go.Ev
set_option maxRecDepth 1000000
set_option linter.unusedVariables false
/-! cubit/locale.cutLeft -/
noncomputable def lcutLeft_L1 (v : Vs) : Option (Vs ⊕ Vs) := sel v.1 [((asStr? (hV v.2 0)).bind fun x2 =>
((asStr? (hV v.2 1)).bind fun x3 =>
((asInt? .i64 (hV v.2 2)).bind fun x4 =>
((asInt? .i32 (hV v.2 3)).bind fun x5 =>
((asBool? (hV v.2 4)).bind fun x6 =>
(cond (decide ((hN v.2 8) < ((hS v.2 7) : List UInt8).length))
(cond x6
(some (.inl (0, [(.v (.str x2)), (.v (.str x3)), (.v (.int .i64 x4)), (.v (.int .i32 x5)), (.v (.bool true)), (.s (hS v.2 5)), (.n (hN v.2 6)), (.s (hS v.2 7)), (.n ((hN v.2 8) + (Utf8.decode ⟨((hS v.2 7) : List UInt8).toArray⟩ (hN v.2 8)).2))])))
(some (.inl (0, [(.v (.str x2)), (.v (.str x3)), (.v (.int .i64 x4)), (.v (.int .i32 x5)), (.v (.bool (x5 == (Utf8.decode ⟨((hS v.2 7) : List UInt8).toArray⟩ (hN v.2 8)).1))), (.s (hS v.2 5)), (.n (hN v.2 6)), (.s (hS v.2 7)), (.n ((hN v.2 8) + (Utf8.decode ⟨((hS v.2 7) : List UInt8).toArray⟩ (hN v.2 8)).2))]))))
(some (.inr (0, [(.v (.str x2)), (.v (.str x3)), (.v (.int .i64 x4)), (.v (.bool x6)), (.s (hS v.2 5)), (.n (hN v.2 6))])))))))))]
noncomputable def lcutLeft_L0 (v : Vs) : Option (Vs ⊕ Vs) := sel v.1 [((asStr? (hV v.2 0)).bind fun x0 =>
((asStr? (hV v.2 1)).bind fun x1 =>
(cond (decide ((hN v.2 3) < ((hS v.2 2) : List UInt8).length))
((loopK lcutLeft_L1 FU (0, [(.v (.str x0)), (.v (.str x1)), (.v (.int .i64 (((hN v.2 3) : Nat) : Int))), (.v (.int .i32 (Utf8.decode ⟨((hS v.2 2) : List UInt8).toArray⟩ (hN v.2 3)).1)), (.v (.bool false)), (.s (hS v.2 2)), (.n ((hN v.2 3) + (Utf8.decode ⟨((hS v.2 2) : List UInt8).toArray⟩ (hN v.2 3)).2)), (.s x1), (.n 0)])).bind fun x7 => sel x7.1 [((asStr? (hV x7.2 0)).bind fun x8 =>
((asStr? (hV x7.2 1)).bind fun x9 =>
((asInt? .i64 (hV x7.2 2)).bind fun x10 =>
((asBool? (hV x7.2 3)).bind fun x11 =>
(cond (!x11)
((cutL (some x10) none x8).bind fun x12 =>
(some (.inr (0, [(.v (.str x12))]))))
(some (.inl (0, [(.v (.str x8)), (.v (.str x9)), (.s (hS x7.2 4)), (.n (hN x7.2 5))]))))))))])
(some (.inr (1, []))))))]
noncomputable def lcutLeft (a0 : List UInt8) (a1 : List UInt8) : Option (List UInt8) :=
((loopK lcutLeft_L0 FU (0, [(.v (.str a0)), (.v (.str a1)), (.s a0), (.n 0)])).bind fun x13 => sel x13.1 [((asStr? (hV x13.2 0)).bind fun x14 =>
(some (x14))),
(some ([]))])
noncomputable def lcutLeft_e : List SV → Objs → Option ((β : Type) → (SV → Objs → Option β) → Option β)
  | [.a (.v (.str a0)), .a (.v (.str a1))], os => some fun _ K => (lcutLeft a0 a1).bind fun p => K (.a (.v (.str p))) os
  | _, _ => none
noncomputable def lcutLeft_k (sv : SV) (os : Objs) : Option (List UInt8) := match sv, os with
  | .a (.v v), [] => dTy (.t1 (.k .str)) v fun v => (match v with | (.str r0) => some (r0) | _ => none)
  | _, _ => none
noncomputable def lcutLeft_n : FuncId → Nat → Ann := fun f n => match f, n with
  | 82, 0 => ⟨[], [⟨[⟨[.a (.h (.t1 (.k .str))), .a (.h (.t1 (.k .str))), .u, .u, .u, .u, .u, .u, .u, .u, .u, .a (.itr 0), .u, .u, .u, .u, .u, .u, .u, .u, .u, .u, .u, .u, .u, .u, .u, .u, .u, .u, .u, .u], [.iter]⟩], [(.ret, ⟨[.u, .u, .u, .u, .a (.h (.t1 (.k .str))), .u, .u, .u, .u, .u, .u, .u, .u, .u, .u, .u, .u, .u, .u, .u, .u, .u, .u, .u, .u, .u, .u, .u, .u, .u, .u, .u], []⟩), ((.ex 0), ⟨[.u, .u, .u, .u, .u, .u, .u, .u, .u, .u, .u, .u, .u, .u, .u, .u, .u, .u, .u, .u, .u, .u, .u, .u, .u, .u, .u, .u, .u, .u, .u, .u], []⟩)]⟩, ⟨[⟨[.a (.h (.t1 (.k .str))), .a (.h (.t1 (.k .str))), .u, .u, .u, .a (.h (.t1 (.k (.int .i64)))), .a (.h (.t1 (.k (.int .i32)))), .a (.h (.t1 (.k .bool))), .u, .u, .u, .a (.itr 0), .u, .u, .u, .u, .u, .a (.itr 1), .u, .u, .u, .u, .u, .u, .u, .u, .u, .u, .u, .u, .u, .u], [.iter, .iter]⟩], [((.ex 2), ⟨[.a (.h (.t1 (.k .str))), .a (.h (.t1 (.k .str))), .u, .u, .u, .a (.h (.t1 (.k (.int .i64)))), .u, .a (.h (.t1 (.k .bool))), .u, .u, .u, .a (.itr 0), .u, .u, .u, .u, .u, .u, .u, .u, .u, .u, .u, .u, .u, .u, .u, .u, .u, .u, .u, .u], [.iter]⟩)]⟩], false⟩
  | _, _ => ⟨[], [], false⟩
theorem lcutLeft_q : (fun (a0 : List UInt8) (a1 : List UInt8) => stN tab0_35 code lcutLeft_n FU 24 82 [.a (.v (.str a0)), .a (.v (.str a1))] [] lcutLeft_k) = (fun (a0 : List UInt8) (a1 : List UInt8) => lcutLeft a0 a1) := by kernel_rfl
noncomputable def tabM_1 : ToldK := addTo tab0_35 82 lcutLeft_e
theorem lcutLeft_h : EntryOK tab0_35 code lcutLeft_n FU 24 82 lcutLeft_e := by
  intro args os t h
  unfold lcutLeft_e at h
  split at h
  · rename_i os0 a0 a1
    cases h
    exact ⟨_, _, fun p => (.str p), lcutLeft_k, ids_all rfl, fun _ _ => rfl, (congrFun (congrFun lcutLeft_q _) _), fun sv os p hp => by
      unfold lcutLeft_k at hp
      split at hp
      · have hp := dTy_ok hp
        split at hp
        · cases hp; exact ⟨rfl, rfl⟩
        · cases hp
      · cases hp⟩
  · cases h
/-! cubit/locale.cutRight -/
noncomputable def lcutRight_L1 (v : Vs) : Option (Vs ⊕ Vs) := sel v.1 [((asStr? (hV v.2 0)).bind fun x3 =>
((asStr? (hV v.2 1)).bind fun x4 =>
((asInt? .i32 (hV v.2 2)).bind fun x5 =>
((asInt? .i64 (hV v.2 3)).bind fun x6 =>
((asBool? (hV v.2 4)).bind fun x7 =>
(cond (decide ((hN v.2 6) < ((hS v.2 5) : List UInt8).length))
(cond x7
(some (.inl (0, [(.v (.str x3)), (.v (.str x4)), (.v (.int .i32 x5)), (.v (.int .i64 x6)), (.v (.bool true)), (.s (hS v.2 5)), (.n ((hN v.2 6) + (Utf8.decode ⟨((hS v.2 5) : List UInt8).toArray⟩ (hN v.2 6)).2))])))
(some (.inl (0, [(.v (.str x3)), (.v (.str x4)), (.v (.int .i32 x5)), (.v (.int .i64 x6)), (.v (.bool (x5 == (Utf8.decode ⟨((hS v.2 5) : List UInt8).toArray⟩ (hN v.2 6)).1))), (.s (hS v.2 5)), (.n ((hN v.2 6) + (Utf8.decode ⟨((hS v.2 5) : List UInt8).toArray⟩ (hN v.2 6)).2))]))))
(some (.inr (0, [(.v (.str x3)), (.v (.str x4)), (.v (.int .i64 x6)), (.v (.bool x7))])))))))))]
noncomputable def lcutRight_L0 (v : Vs) : Option (Vs ⊕ Vs) := sel v.1 [((asStr? (hV v.2 0)).bind fun x0 =>
((asStr? (hV v.2 1)).bind fun x1 =>
(cond (decide ((((x0 : List UInt8).length : Nat) : Int) > 0))
((dlr x0).bind fun x2 =>
((loopK lcutRight_L1 FU (0, [(.v (.str x0)), (.v (.str x1)), (.v (.int .i32 x2.1)), (.v (.int .i64 x2.2)), (.v (.bool false)), (.s x1), (.n 0)])).bind fun x8 => sel x8.1 [((asStr? (hV x8.2 0)).bind fun x9 =>
((asStr? (hV x8.2 1)).bind fun x10 =>
((asInt? .i64 (hV x8.2 2)).bind fun x11 =>
((asBool? (hV x8.2 3)).bind fun x12 =>
(cond (!x12)
(some (.inr (0, [(.v (.str x9))])))
((cutL none (some (IntKind.wrap .i64 ((((x9 : List UInt8).length : Nat) : Int) - x11))) x9).bind fun x13 =>
(some (.inl (0, [(.v (.str x13)), (.v (.str x10))])))))))))]))
(some (.inr (1, [(.v (.str x0))]))))))]
noncomputable def lcutRight (a0 : List UInt8) (a1 : List UInt8) : Option (List UInt8) :=
((loopK lcutRight_L0 FU (0, [(.v (.str a0)), (.v (.str a1))])).bind fun x14 => sel x14.1 [((asStr? (hV x14.2 0)).bind fun x15 =>
(some (x15))),
((asStr? (hV x14.2 0)).bind fun x16 =>
(some (x16)))])
noncomputable def lcutRight_e : List SV → Objs → Option ((β : Type) → (SV → Objs → Option β) → Option β)
  | [.a (.v (.str a0)), .a (.v (.str a1))], os => some fun _ K => (lcutRight a0 a1).bind fun p => K (.a (.v (.str p))) os
  | _, _ => none
noncomputable def lcutRight_k (sv : SV) (os : Objs) : Option (List UInt8) := match sv, os with
  | .a (.v v), [] => dTy (.t1 (.k .str)) v fun v => (match v with | (.str r0) => some (r0) | _ => none)
  | _, _ => none
noncomputable def lcutRight_n : FuncId → Nat → Ann := fun f n => match f, n with
  | 81, 0 => ⟨[], [⟨[⟨[.a (.h (.t1 (.k .str))), .a (.h (.t1 (.k .str))), .u, .u, .u, .u, .u, .u, .u, .u, .u, .u, .u, .u, .u, .u, .u, .u, .u, .u, .u, .u, .u, .u, .u, .u, .u, .u, .u, .u, .u, .u, .u, .u, .u, .u, .u, .u, .u], []⟩], [(.ret, ⟨[.u, .u, .u, .u, .a (.h (.t1 (.k .str))), .u, .u, .u, .u, .u, .u, .u, .u, .u, .u, .u, .u, .u, .u, .u, .u, .u, .u, .u, .u, .u, .u, .u, .u, .u, .u, .u, .u, .u, .u, .u, .u, .u, .u], []⟩), ((.ex 0), ⟨[.a (.h (.t1 (.k .str))), .u, .u, .u, .u, .u, .u, .u, .u, .u, .u, .u, .u, .u, .u, .u, .u, .u, .u, .u, .u, .u, .u, .u, .u, .u, .u, .u, .u, .u, .u, .u, .u, .u, .u, .u, .u, .u, .u], []⟩)]⟩, ⟨[⟨[.a (.h (.t1 (.k .str))), .a (.h (.t1 (.k .str))), .u, .u, .u, .a (.h (.t1 (.k (.int .i32)))), .a (.h (.t1 (.k (.int .i64)))), .a (.h (.t1 (.k .bool))), .u, .u, .u, .u, .u, .u, .u, .u, .u, .u, .u, .a (.itr 0), .u, .u, .u, .u, .u, .u, .u, .u, .u, .u, .u, .u, .u, .u, .u, .u, .u, .u, .u], [.iter]⟩], [((.ex 2), ⟨[.a (.h (.t1 (.k .str))), .a (.h (.t1 (.k .str))), .u, .u, .u, .u, .a (.h (.t1 (.k (.int .i64)))), .a (.h (.t1 (.k .bool))), .u, .u, .u, .u, .u, .u, .u, .u, .u, .u, .u, .u, .u, .u, .u, .u, .u, .u, .u, .u, .u, .u, .u, .u, .u, .u, .u, .u, .u, .u, .u], []⟩)]⟩], false⟩
  | _, _ => ⟨[], [], false⟩
theorem lcutRight_q : (fun (a0 : List UInt8) (a1 : List UInt8) => stN tabM_1 code lcutRight_n FU 24 81 [.a (.v (.str a0)), .a (.v (.str a1))] [] lcutRight_k) = (fun (a0 : List UInt8) (a1 : List UInt8) => lcutRight a0 a1) := by kernel_rfl
noncomputable def tabM_2 : ToldK := addTo tabM_1 81 lcutRight_e
theorem lcutRight_h : EntryOK tabM_1 code lcutRight_n FU 24 81 lcutRight_e := by
  intro args os t h
  unfold lcutRight_e at h
  split at h
  · rename_i os0 a0 a1
    cases h
    exact ⟨_, _, fun p => (.str p), lcutRight_k, ids_all rfl, fun _ _ => rfl, (congrFun (congrFun lcutRight_q _) _), fun sv os p hp => by
      unfold lcutRight_k at hp
      split at hp
      · have hp := dTy_ok hp
        split at hp
        · cases hp; exact ⟨rfl, rfl⟩
        · cases hp
      · cases hp⟩
  · cases h
/-! cubit/locale.of -/
noncomputable def lof (a0 : List UInt8) (a1 : List UInt8) (a2 : Int) (a3 : Int) : Option (Bool) :=
(cond (decide ((((a0 : List UInt8).length : Nat) : Int) ≥ a2))
(cond (decide ((((a0 : List UInt8).length : Nat) : Int) ≤ a3))
((lcutLeft a0 a1).bind fun x0 =>
((lcutRight x0 a1).bind fun x1 =>
(some ((x1 == [])))))
(some (false)))
(some (false)))
noncomputable def lof_e : List SV → Objs → Option ((β : Type) → (SV → Objs → Option β) → Option β)
  | [.a (.v (.str a0)), .a (.v (.str a1)), .a (.v (.int .i64 a2)), .a (.v (.int .i64 a3))], os => some fun _ K => (lof a0 a1 a2 a3).bind fun p => K (.a (.v (.bool p))) os
  | _, _ => none
noncomputable def lof_k (sv : SV) (os : Objs) : Option (Bool) := match sv, os with
  | .a (.v v), [] => dTy (.t1 (.k .bool)) v fun v => (match v with | (.bool r0) => some (r0) | _ => none)
  | _, _ => none
noncomputable def lof_n : FuncId → Nat → Ann := fun f n => match f, n with
  | _, _ => ⟨[], [], false⟩
theorem lof_q : (fun (a0 : List UInt8) (a1 : List UInt8) (a2 : Int) (a3 : Int) => stN tabM_2 code lof_n FU 24 58 [.a (.v (.str a0)), .a (.v (.str a1)), .a (.v (.int .i64 a2)), .a (.v (.int .i64 a3))] [] lof_k) = (fun (a0 : List UInt8) (a1 : List UInt8) (a2 : Int) (a3 : Int) => lof a0 a1 a2 a3) := by kernel_rfl
noncomputable def tabM_3 : ToldK := addTo tabM_2 58 lof_e
theorem lof_h : EntryOK tabM_2 code lof_n FU 24 58 lof_e := by
  intro args os t h
  unfold lof_e at h
  split at h
  · rename_i os0 a0 a1 a2 a3
    cases h
    exact ⟨_, _, fun p => (.bool p), lof_k, ids_all rfl, fun _ _ => rfl, (congrFun (congrFun (congrFun (congrFun lof_q _) _) _) _), fun sv os p hp => by
      unfold lof_k at hp
      split at hp
      · have hp := dTy_ok hp
        split at hp
        · cases hp; exact ⟨rfl, rfl⟩
        · cases hp
      · cases hp⟩
  · cases h
/-! cubit/locale.lang -/
noncomputable def llang (a0 : List UInt8) : Option (Bool) :=
((lof a0 [97, 98, 99, 100, 101, 102, 103, 104, 105, 106, 107, 108, 109, 110, 111, 112, 113, 114, 115, 116, 117, 118, 119, 120, 121, 122] 2 3).bind fun x0 =>
(some (x0)))
noncomputable def llang_e : List SV → Objs → Option ((β : Type) → (SV → Objs → Option β) → Option β)
  | [.a (.v (.str a0))], os => some fun _ K => (llang a0).bind fun p => K (.a (.v (.bool p))) os
  | _, _ => none
noncomputable def llang_k (sv : SV) (os : Objs) : Option (Bool) := match sv, os with
  | .a (.v v), [] => dTy (.t1 (.k .bool)) v fun v => (match v with | (.bool r0) => some (r0) | _ => none)
  | _, _ => none
noncomputable def llang_n : FuncId → Nat → Ann := fun f n => match f, n with
  | _, _ => ⟨[], [], false⟩
theorem llang_q : (fun (a0 : List UInt8) => stN tabM_3 code llang_n FU 24 40 [.a (.v (.str a0))] [] llang_k) = (fun (a0 : List UInt8) => llang a0) := by kernel_rfl
noncomputable def tabM_4 : ToldK := addTo tabM_3 40 llang_e
theorem llang_h : EntryOK tabM_3 code llang_n FU 24 40 llang_e := by
  intro args os t h
  unfold llang_e at h
  split at h
  · rename_i os0 a0
    cases h
    exact ⟨_, _, fun p => (.bool p), llang_k, ids_all rfl, fun _ _ => rfl, (congrFun llang_q _), fun sv os p hp => by
      unfold llang_k at hp
      split at hp
      · have hp := dTy_ok hp
        split at hp
        · cases hp; exact ⟨rfl, rfl⟩
        · cases hp
      · cases hp⟩
  · cases h
/-! cubit/locale.region -/
noncomputable def lregion (a0 : List UInt8) : Option (Bool) :=
((lof a0 [65, 66, 67, 68, 69, 70, 71, 72, 73, 74, 75, 76, 77, 78, 79, 80, 81, 82, 83, 84, 85, 86, 87, 88, 89, 90] 2 2).bind fun x0 =>
(cond x0
(some (true))
((lof a0 [48, 49, 50, 51, 52, 53, 54, 55, 56, 57] 3 3).bind fun x1 =>
(some (x1)))))
noncomputable def lregion_e : List SV → Objs → Option ((β : Type) → (SV → Objs → Option β) → Option β)
  | [.a (.v (.str a0))], os => some fun _ K => (lregion a0).bind fun p => K (.a (.v (.bool p))) os
  | _, _ => none
noncomputable def lregion_k (sv : SV) (os : Objs) : Option (Bool) := match sv, os with
  | .a (.v v), [] => dTy (.t1 (.k .bool)) v fun v => (match v with | (.bool r0) => some (r0) | _ => none)
  | _, _ => none
noncomputable def lregion_n : FuncId → Nat → Ann := fun f n => match f, n with
  | _, _ => ⟨[], [], false⟩
theorem lregion_q : (fun (a0 : List UInt8) => stN tabM_4 code lregion_n FU 24 41 [.a (.v (.str a0))] [] lregion_k) = (fun (a0 : List UInt8) => lregion a0) := by kernel_rfl
noncomputable def tabM_5 : ToldK := addTo tabM_4 41 lregion_e
theorem lregion_h : EntryOK tabM_4 code lregion_n FU 24 41 lregion_e := by
  intro args os t h
  unfold lregion_e at h
  split at h
  · rename_i os0 a0
    cases h
    exact ⟨_, _, fun p => (.bool p), lregion_k, ids_all rfl, fun _ _ => rfl, (congrFun lregion_q _), fun sv os p hp => by
      unfold lregion_k at hp
      split at hp
      · have hp := dTy_ok hp
        split at hp
        · cases hp; exact ⟨rfl, rfl⟩
        · cases hp
      · cases hp⟩
  · cases h
/-! cubit/locale.Parse -/
noncomputable def lparse_L0 (v : Vs) : Option (Vs ⊕ Vs) := sel v.1 [((asSl? (hV v.2 0)).bind fun x14 =>
((asStr? (hV v.2 1)).bind fun x15 =>
((asStr? (hV v.2 2)).bind fun x16 =>
((asStr? (hV v.2 3)).bind fun x17 =>
((asStr? (hV v.2 4)).bind fun x18 =>
((asStr? (hV v.2 5)).bind fun x19 =>
((asStr? (hV v.2 6)).bind fun x20 =>
((asStr? (hV v.2 7)).bind fun x21 =>
((asStr? (hV v.2 8)).bind fun x22 =>
((asStr? (hV v.2 9)).bind fun x23 =>
((asStr? (hV v.2 10)).bind fun x24 =>
(cond (decide (((slLen x14 : Nat) : Int) > 0))
((idxL (x14.getD []) 0).bind fun x25 =>
((asStr? x25).bind fun x26 =>
((idxL (x14.getD []) 1).bind fun x27 =>
((asStr? x27).bind fun x28 =>
(cond (x26 == [114, 103])
(cond (decide ((((x28 : List UInt8).length : Nat) : Int) ≥ 4))
((cutL (some (IntKind.wrap .i64 ((((x28 : List UInt8).length : Nat) : Int) - 4))) none x28).bind fun x29 =>
(cond (!(x29 == [122, 122, 122, 122]))
(some (.inr (0, [(.v (.int .i64 2)), (.v (.str [])), (.v (.str [])), (.v (.str [])), (.v (.str [])), (.v (.str []))])))
((cutL none (some (IntKind.wrap .i64 ((((x28 : List UInt8).length : Nat) : Int) - 4))) x28).bind fun x30 =>
(cond (!(x22 == []))
(some (.inr (0, [(.v (.int .i64 2)), (.v (.str [])), (.v (.str [])), (.v (.str [])), (.v (.str [])), (.v (.str []))])))
((lof x30 [97, 98, 99, 100, 101, 102, 103, 104, 105, 106, 107, 108, 109, 110, 111, 112, 113, 114, 115, 116, 117, 118, 119, 120, 121, 122] 2 2).bind fun x31 =>
(cond (!x31)
((lof x30 [48, 49, 50, 51, 52, 53, 54, 55, 56, 57] 3 3).bind fun x32 =>
(cond (!x32)
(some (.inr (0, [(.v (.int .i64 2)), (.v (.str [])), (.v (.str [])), (.v (.str [])), (.v (.str [])), (.v (.str []))])))
((upr x30).bind fun x33 =>
((cutSl 1 (some 2) none x14).bind fun x34 =>
(some (.inl (0, [(.v (.sl x34)), (.v (.str x15)), (.v (.str x16)), (.v (.str x17)), (.v (.str x18)), (.v (.str x19)), (.v (.str x20)), (.v (.str x21)), (.v (.str x33)), (.v (.str x23)), (.v (.str x24))])))))))
((upr x30).bind fun x35 =>
((cutSl 1 (some 2) none x14).bind fun x36 =>
(some (.inl (0, [(.v (.sl x36)), (.v (.str x15)), (.v (.str x16)), (.v (.str x17)), (.v (.str x18)), (.v (.str x19)), (.v (.str x20)), (.v (.str x21)), (.v (.str x35)), (.v (.str x23)), (.v (.str x24))])))))))))))
(some (.inr (0, [(.v (.int .i64 2)), (.v (.str [])), (.v (.str [])), (.v (.str [])), (.v (.str [])), (.v (.str []))]))))
(cond (x26 == [109, 115])
(cond (!(x23 == []))
(some (.inr (0, [(.v (.int .i64 2)), (.v (.str [])), (.v (.str [])), (.v (.str [])), (.v (.str [])), (.v (.str []))])))
(cond (!(x28 == [109, 101, 116, 114, 105, 99]))
(cond (!(x28 == [117, 115, 115, 121, 115, 116, 101, 109]))
(cond (!(x28 == [117, 107, 115, 121, 115, 116, 101, 109]))
(some (.inr (0, [(.v (.int .i64 2)), (.v (.str [])), (.v (.str [])), (.v (.str [])), (.v (.str [])), (.v (.str []))])))
((cutSl 1 (some 2) none x14).bind fun x37 =>
(some (.inl (0, [(.v (.sl x37)), (.v (.str x15)), (.v (.str x16)), (.v (.str x17)), (.v (.str x18)), (.v (.str x19)), (.v (.str x20)), (.v (.str x21)), (.v (.str x22)), (.v (.str x28)), (.v (.str x24))])))))
((cutSl 1 (some 2) none x14).bind fun x38 =>
(some (.inl (0, [(.v (.sl x38)), (.v (.str x15)), (.v (.str x16)), (.v (.str x17)), (.v (.str x18)), (.v (.str x19)), (.v (.str x20)), (.v (.str x21)), (.v (.str x22)), (.v (.str x28)), (.v (.str x24))])))))
((cutSl 1 (some 2) none x14).bind fun x39 =>
(some (.inl (0, [(.v (.sl x39)), (.v (.str x15)), (.v (.str x16)), (.v (.str x17)), (.v (.str x18)), (.v (.str x19)), (.v (.str x20)), (.v (.str x21)), (.v (.str x22)), (.v (.str x28)), (.v (.str x24))]))))))
(cond (x26 == [109, 117])
(cond (!(x24 == []))
(some (.inr (0, [(.v (.int .i64 2)), (.v (.str [])), (.v (.str [])), (.v (.str [])), (.v (.str [])), (.v (.str []))])))
(cond (!(x28 == [99, 101, 108, 115, 105, 117, 115]))
(cond (!(x28 == [102, 97, 104, 114, 101, 110, 104, 101]))
(cond (!(x28 == [107, 101, 108, 118, 105, 110]))
(some (.inr (0, [(.v (.int .i64 2)), (.v (.str [])), (.v (.str [])), (.v (.str [])), (.v (.str [])), (.v (.str []))])))
((cutSl 1 (some 2) none x14).bind fun x40 =>
(some (.inl (0, [(.v (.sl x40)), (.v (.str x15)), (.v (.str x16)), (.v (.str x17)), (.v (.str x18)), (.v (.str x19)), (.v (.str x20)), (.v (.str x21)), (.v (.str x22)), (.v (.str x23)), (.v (.str x28))])))))
((cutSl 1 (some 2) none x14).bind fun x41 =>
(some (.inl (0, [(.v (.sl x41)), (.v (.str x15)), (.v (.str x16)), (.v (.str x17)), (.v (.str x18)), (.v (.str x19)), (.v (.str x20)), (.v (.str x21)), (.v (.str x22)), (.v (.str x23)), (.v (.str x28))])))))
((cutSl 1 (some 2) none x14).bind fun x42 =>
(some (.inl (0, [(.v (.sl x42)), (.v (.str x15)), (.v (.str x16)), (.v (.str x17)), (.v (.str x18)), (.v (.str x19)), (.v (.str x20)), (.v (.str x21)), (.v (.str x22)), (.v (.str x23)), (.v (.str x28))]))))))
(some (.inr (0, [(.v (.int .i64 2)), (.v (.str [])), (.v (.str [])), (.v (.str [])), (.v (.str [])), (.v (.str []))]))))))))))
(some (.inr (1, [(.v (.str x15)), (.v (.str x16)), (.v (.str x17)), (.v (.str x18)), (.v (.str x19)), (.v (.str x20)), (.v (.str x21)), (.v (.str x22)), (.v (.str x23)), (.v (.str x24))])))))))))))))))]
noncomputable def lparse (a0 : List UInt8) : Option (List UInt8 × List UInt8 × List UInt8 × List UInt8 × List UInt8 × Int) :=
((spl a0 [45]).bind fun x0 =>
((idxL (x0.getD []) 0).bind fun x1 =>
((asStr? x1).bind fun x2 =>
((llang x2).bind fun x3 =>
(cond (!x3)
(some ([], [], [], [], [], 2))
((cutSl 1 (some 1) none x0).bind fun x4 =>
(cond (decide (((slLen x4 : Nat) : Int) > 0))
((idxL (x4.getD []) 0).bind fun x5 =>
((asStr? x5).bind fun x6 =>
((lregion x6).bind fun x7 =>
(cond x7
((idxL (x4.getD []) 0).bind fun x8 =>
((asStr? x8).bind fun x9 =>
((cutSl 1 (some 1) none x4).bind fun x10 =>
(cond (((slLen x10 : Nat) : Int) == 0)
(some (x2, x9, [], [], [], 0))
((idxL (x10.getD []) 0).bind fun x11 =>
((asStr? x11).bind fun x12 =>
(cond (!(x12 == [117]))
(some ([], [], [], [], [], 2))
(cond (((slLen x10 : Nat) : Int) == 1)
(some ([], [], [], [], [], 2))
(cond ((Int.tmod ((slLen x10 : Nat) : Int) 2) == 0)
(some ([], [], [], [], [], 2))
((cutSl 1 (some 1) none x10).bind fun x13 =>
((loopK lparse_L0 FU (0, [(.v (.sl x13)), (.v (.str [])), (.v (.str [])), (.v (.str [])), (.v (.str [])), (.v (.str [])), (.v (.str x2)), (.v (.str x9)), (.v (.str [])), (.v (.str [])), (.v (.str []))])).bind fun x43 => sel x43.1 [((asInt? .i64 (hV x43.2 0)).bind fun x44 =>
((asStr? (hV x43.2 1)).bind fun x45 =>
((asStr? (hV x43.2 2)).bind fun x46 =>
((asStr? (hV x43.2 3)).bind fun x47 =>
((asStr? (hV x43.2 4)).bind fun x48 =>
((asStr? (hV x43.2 5)).bind fun x49 =>
(some (x45, x46, x47, x48, x49, x44)))))))),
((asStr? (hV x43.2 0)).bind fun x50 =>
((asStr? (hV x43.2 1)).bind fun x51 =>
((asStr? (hV x43.2 2)).bind fun x52 =>
((asStr? (hV x43.2 3)).bind fun x53 =>
((asStr? (hV x43.2 4)).bind fun x54 =>
((asStr? (hV x43.2 5)).bind fun x55 =>
((asStr? (hV x43.2 6)).bind fun x56 =>
((asStr? (hV x43.2 7)).bind fun x57 =>
((asStr? (hV x43.2 8)).bind fun x58 =>
((asStr? (hV x43.2 9)).bind fun x59 =>
(some (x55, x56, x57, x58, x59, 0))))))))))))])))))))))))
(cond (((slLen x4 : Nat) : Int) == 0)
(some (x2, [], [], [], [], 0))
((idxL (x4.getD []) 0).bind fun x60 =>
((asStr? x60).bind fun x61 =>
(cond (!(x61 == [117]))
(some ([], [], [], [], [], 2))
(cond (((slLen x4 : Nat) : Int) == 1)
(some ([], [], [], [], [], 2))
(cond ((Int.tmod ((slLen x4 : Nat) : Int) 2) == 0)
(some ([], [], [], [], [], 2))
((cutSl 1 (some 1) none x4).bind fun x62 =>
((loopK lparse_L0 FU (0, [(.v (.sl x62)), (.v (.str [])), (.v (.str [])), (.v (.str [])), (.v (.str [])), (.v (.str [])), (.v (.str x2)), (.v (.str [])), (.v (.str [])), (.v (.str [])), (.v (.str []))])).bind fun x92 => sel x92.1 [((asInt? .i64 (hV x92.2 0)).bind fun x93 =>
((asStr? (hV x92.2 1)).bind fun x94 =>
((asStr? (hV x92.2 2)).bind fun x95 =>
((asStr? (hV x92.2 3)).bind fun x96 =>
((asStr? (hV x92.2 4)).bind fun x97 =>
((asStr? (hV x92.2 5)).bind fun x98 =>
(some (x94, x95, x96, x97, x98, x93)))))))),
((asStr? (hV x92.2 0)).bind fun x99 =>
((asStr? (hV x92.2 1)).bind fun x100 =>
((asStr? (hV x92.2 2)).bind fun x101 =>
((asStr? (hV x92.2 3)).bind fun x102 =>
((asStr? (hV x92.2 4)).bind fun x103 =>
((asStr? (hV x92.2 5)).bind fun x104 =>
((asStr? (hV x92.2 6)).bind fun x105 =>
((asStr? (hV x92.2 7)).bind fun x106 =>
((asStr? (hV x92.2 8)).bind fun x107 =>
((asStr? (hV x92.2 9)).bind fun x108 =>
(some (x104, x105, x106, x107, x108, 0))))))))))))]))))))))))))
(cond (((slLen x4 : Nat) : Int) == 0)
(some (x2, [], [], [], [], 0))
((idxL (x4.getD []) 0).bind fun x109 =>
((asStr? x109).bind fun x110 =>
(cond (!(x110 == [117]))
(some ([], [], [], [], [], 2))
(cond (((slLen x4 : Nat) : Int) == 1)
(some ([], [], [], [], [], 2))
(cond ((Int.tmod ((slLen x4 : Nat) : Int) 2) == 0)
(some ([], [], [], [], [], 2))
((cutSl 1 (some 1) none x4).bind fun x111 =>
((loopK lparse_L0 FU (0, [(.v (.sl x111)), (.v (.str [])), (.v (.str [])), (.v (.str [])), (.v (.str [])), (.v (.str [])), (.v (.str x2)), (.v (.str [])), (.v (.str [])), (.v (.str [])), (.v (.str []))])).bind fun x141 => sel x141.1 [((asInt? .i64 (hV x141.2 0)).bind fun x142 =>
((asStr? (hV x141.2 1)).bind fun x143 =>
((asStr? (hV x141.2 2)).bind fun x144 =>
((asStr? (hV x141.2 3)).bind fun x145 =>
((asStr? (hV x141.2 4)).bind fun x146 =>
((asStr? (hV x141.2 5)).bind fun x147 =>
(some (x143, x144, x145, x146, x147, x142)))))))),
((asStr? (hV x141.2 0)).bind fun x148 =>
((asStr? (hV x141.2 1)).bind fun x149 =>
((asStr? (hV x141.2 2)).bind fun x150 =>
((asStr? (hV x141.2 3)).bind fun x151 =>
((asStr? (hV x141.2 4)).bind fun x152 =>
((asStr? (hV x141.2 5)).bind fun x153 =>
((asStr? (hV x141.2 6)).bind fun x154 =>
((asStr? (hV x141.2 7)).bind fun x155 =>
((asStr? (hV x141.2 8)).bind fun x156 =>
((asStr? (hV x141.2 9)).bind fun x157 =>
(some (x153, x154, x155, x156, x157, 0))))))))))))])))))))))))))))
noncomputable def lparse_e : List SV → Objs → Option ((β : Type) → (SV → Objs → Option β) → Option β)
  | [.a (.v (.str a0))], os => some fun _ K => (lparse a0).bind fun p => K (.a (.v (.tup [(.agg [(.str p.1), (.str p.2.1), (.str p.2.2.1), (.str p.2.2.2.1), (.str p.2.2.2.2.1)]), (.int .i64 p.2.2.2.2.2)]))) os
  | _, _ => none
noncomputable def lparse_k (sv : SV) (os : Objs) : Option (List UInt8 × List UInt8 × List UInt8 × List UInt8 × List UInt8 × Int) := match sv, os with
  | .a (.v v), [] => dTy (.tup [(.agg [.str, .str, .str, .str, .str]), (.k (.int .i64))]) v fun v => (match v with | (.tup [(.agg [(.str r0), (.str r1), (.str r2), (.str r3), (.str r4)]), (.int .i64 r5)]) => some (r0, r1, r2, r3, r4, r5) | _ => none)
  | _, _ => none
noncomputable def lparse_n : FuncId → Nat → Ann := fun f n => match f, n with
  | 25, 0 => ⟨[(9, (.t1 (.k .str))), (24, (.t1 (.k .str))), (29, (.t1 (.k .str))), (39, (.t1 (.k .str))), (62, (.t1 (.k .str))), (65, (.t1 (.k .str)))], [⟨[⟨[.u, .u, .a (.loc 0 0), .u, .a (.h (.t1 (.k .sl))), .a (.loc 1 0), .u, .u, .u, .u, .u, .u, .u, .u, .u, .u, .u, .u, .u, .u, .u, .u, .u, .u, .u, .u, .u, .u, .u, .u, .u, .u, .u, .u, .u, .u, .u, .u, .u, .u, .u, .u, .u, .u, .u, .u, .u, .u, .u, .u, .u, .u, .u, .u, .u, .u, .u, .u, .u, .u, .u, .u, .u, .u, .u, .u, .u, .u, .u, .u, .u], [.box 57 [.h (.t1 (.k .str)), .h (.t1 (.k .str)), .h (.t1 (.k .str)), .h (.t1 (.k .str)), .h (.t1 (.k .str))], .box 57 [.h (.t1 (.k .str)), .h (.t1 (.k .str)), .h (.t1 (.k .str)), .h (.t1 (.k .str)), .h (.t1 (.k .str))]]⟩], [(.ret, ⟨[.u, .u, .a (.loc 0 0), .a (.h (.t1 (.k (.int .i64)))), .u, .u, .u, .u, .u, .u, .u, .u, .u, .u, .u, .u, .u, .u, .u, .u, .u, .u, .u, .u, .u, .u, .u, .u, .u, .u, .u, .u, .u, .u, .u, .u, .u, .u, .u, .u, .u, .u, .u, .u, .u, .u, .u, .u, .u, .u, .u, .u, .u, .u, .u, .u, .u, .u, .u, .u, .u, .u, .u, .u, .u, .u, .u, .u, .u, .u, .u], [.box 57 [.h (.t1 (.k .str)), .h (.t1 (.k .str)), .h (.t1 (.k .str)), .h (.t1 (.k .str)), .h (.t1 (.k .str))]]⟩), ((.ex 0), ⟨[.u, .u, .a (.loc 0 0), .u, .u, .a (.loc 1 0), .u, .u, .u, .u, .u, .u, .u, .u, .u, .u, .u, .u, .u, .u, .u, .u, .u, .u, .u, .u, .u, .u, .u, .u, .u, .u, .u, .u, .u, .u, .u, .u, .u, .u, .u, .u, .u, .u, .u, .u, .u, .u, .u, .u, .u, .u, .u, .u, .u, .u, .u, .u, .u, .u, .u, .u, .u, .u, .u, .u, .u, .u, .u, .u, .u], [.box 57 [.h (.t1 (.k .str)), .h (.t1 (.k .str)), .h (.t1 (.k .str)), .h (.t1 (.k .str)), .h (.t1 (.k .str))], .box 57 [.h (.t1 (.k .str)), .h (.t1 (.k .str)), .h (.t1 (.k .str)), .h (.t1 (.k .str)), .h (.t1 (.k .str))]]⟩)]⟩], false⟩
  | _, _ => ⟨[], [], false⟩
theorem lparse_q : (fun (a0 : List UInt8) => stN tabM_5 code lparse_n FU 24 25 [.a (.v (.str a0))] [] lparse_k) = (fun (a0 : List UInt8) => lparse a0) := by kernel_rfl
noncomputable def tabM_6 : ToldK := addTo tabM_5 25 lparse_e
theorem lparse_h : EntryOK tabM_5 code lparse_n FU 24 25 lparse_e := by
  intro args os t h
  unfold lparse_e at h
  split at h
  · rename_i os0 a0
    cases h
    exact ⟨_, _, fun p => (.tup [(.agg [(.str p.1), (.str p.2.1), (.str p.2.2.1), (.str p.2.2.2.1), (.str p.2.2.2.2.1)]), (.int .i64 p.2.2.2.2.2)]), lparse_k, ids_all rfl, fun _ _ => rfl, (congrFun lparse_q _), fun sv os p hp => by
      unfold lparse_k at hp
      split at hp
      · have hp := dTy_ok hp
        split at hp
        · cases hp; exact ⟨rfl, rfl⟩
        · cases hp
      · cases hp⟩
  · cases h
/-! cubit/locale.Place -/
noncomputable def lplace (a0 : List UInt8) (a1 : List UInt8) (a2 : List UInt8) (a3 : List UInt8) (a4 : List UInt8) : Option (List UInt8) :=
(cond (a3 == [109, 101, 116, 114, 105, 99])
(some ([48, 48, 49]))
(cond (a3 == [117, 115, 115, 121, 115, 116, 101, 109])
(some ([85, 83]))
(cond (a3 == [117, 107, 115, 121, 115, 116, 101, 109])
(some ([71, 66]))
(cond (!(a2 == []))
(some (a2))
(some (a1))))))
noncomputable def lplace_e : List SV → Objs → Option ((β : Type) → (SV → Objs → Option β) → Option β)
  | [.a (.v (.agg [(.str a0), (.str a1), (.str a2), (.str a3), (.str a4)]))], os => some fun _ K => (lplace a0 a1 a2 a3 a4).bind fun p => K (.a (.v (.str p))) os
  | _, _ => none
noncomputable def lplace_k (sv : SV) (os : Objs) : Option (List UInt8) := match sv, os with
  | .a (.v v), [] => dTy (.t1 (.k .str)) v fun v => (match v with | (.str r0) => some (r0) | _ => none)
  | _, _ => none
noncomputable def lplace_n : FuncId → Nat → Ann := fun f n => match f, n with
  | _, _ => ⟨[], [], false⟩
theorem lplace_q : (fun (a0 : List UInt8) (a1 : List UInt8) (a2 : List UInt8) (a3 : List UInt8) (a4 : List UInt8) => stN tabM_6 code lplace_n FU 24 43 [.a (.v (.agg [(.str a0), (.str a1), (.str a2), (.str a3), (.str a4)]))] [] lplace_k) = (fun (a0 : List UInt8) (a1 : List UInt8) (a2 : List UInt8) (a3 : List UInt8) (a4 : List UInt8) => lplace a0 a1 a2 a3 a4) := by kernel_rfl
noncomputable def tabM_7 : ToldK := addTo tabM_6 43 lplace_e
theorem lplace_h : EntryOK tabM_6 code lplace_n FU 24 43 lplace_e := by
  intro args os t h
  unfold lplace_e at h
  split at h
  · rename_i os0 a0 a1 a2 a3 a4
    cases h
    exact ⟨_, _, fun p => (.str p), lplace_k, ids_all rfl, fun _ _ => rfl, (congrFun (congrFun (congrFun (congrFun (congrFun lplace_q _) _) _) _) _), fun sv os p hp => by
      unfold lplace_k at hp
      split at hp
      · have hp := dTy_ok hp
        split at hp
        · cases hp; exact ⟨rfl, rfl⟩
        · cases hp
      · cases hp⟩
  · cases h
/-! (*cubit/region.World).Where -/
noncomputable def rwhere_L0 (v : Vs) : Option (Vs ⊕ Vs) := sel v.1 [((asInt? .i64 (hV v.2 0)).bind fun x6 =>
((asInt? .i64 (hV v.2 1)).bind fun x7 =>
(cond (decide (x7 < x6))
((idxL (hL v.2 2) x7).bind fun x8 =>
((asStr? x8).bind fun x9 =>
(cond (!(x9 == []))
(some (.inr (0, [(.v (.str x9))])))
(some (.inl (0, [(.v (.int .i64 x6)), (.v (.int .i64 (IntKind.wrap .i64 (x7 + 1)))), (.l (hL v.2 2))]))))))
(some (.inr (1, []))))))]
noncomputable def rwhere (a0 : Option (List V)) (a1 : List UInt8) (a2 : List UInt8) (a3 : List UInt8) (a4 : List UInt8) (a5 : List UInt8) : Option (List UInt8) :=
((lplace a1 a2 a3 a4 a5).bind fun x0 =>
((asPtr? 2 (.pt a0)).bind fun x1 =>
((asMp? (x1.getD 0 .nilp)).bind fun x2 =>
((asMp? (x1.getD 1 .nilp)).bind fun x3 =>
((lookM ⟨false, [.s]⟩ (.str a1) x3).bind fun x4 =>
((asStr? (x4.getD (.str []))).bind fun x5 =>
((loopK rwhere_L0 FU (0, [(.v (.int .i64 2)), (.v (.int .i64 0)), (.l [(.str x0), (.str x5)])])).bind fun x10 => sel x10.1 [((asStr? (hV x10.2 0)).bind fun x11 =>
(some (x11))),
(some ([48, 48, 49]))])))))))
noncomputable def rwhere_e : List SV → Objs → Option ((β : Type) → (SV → Objs → Option β) → Option β)
  | [.a (.v (.pt a0)), .a (.v (.agg [(.str a1), (.str a2), (.str a3), (.str a4), (.str a5)]))], os => some fun _ K => (rwhere a0 a1 a2 a3 a4 a5).bind fun p => K (.a (.v (.str p))) os
  | _, _ => none
noncomputable def rwhere_k (sv : SV) (os : Objs) : Option (List UInt8) := match sv, os with
  | .a (.v v), [] => dTy (.t1 (.k .str)) v fun v => (match v with | (.str r0) => some (r0) | _ => none)
  | _, _ => none
noncomputable def rwhere_n : FuncId → Nat → Ann := fun f n => match f, n with
  | 26, 0 => ⟨[(10, (.ptr [.mp, .mp])), (11, (.ptr [.mp, .mp])), (15, (.t1 (.k .str))), (20, (.t1 (.k .str)))], [⟨[⟨[.u, .u, .u, .u, .u, .u, .u, .u, .u, .u, .u, .u, .u, .u, .u, .u, .a (.own 0), .a (.h (.t1 (.k (.int .i64)))), .a (.h (.t1 (.k (.int .i64)))), .u, .u, .u, .u, .u, .u, .u], [.ext 9 1]⟩], [(.ret, ⟨[.u, .u, .u, .u, .a (.h (.t1 (.k .str))), .u, .u, .u, .u, .u, .u, .u, .u, .u, .u, .u, .u, .u, .u, .u, .u, .u, .u, .u, .u, .u], []⟩), ((.ex 0), ⟨[.u, .u, .u, .u, .u, .u, .u, .u, .u, .u, .u, .u, .u, .u, .u, .u, .u, .u, .u, .u, .u, .u, .u, .u, .u, .u], []⟩)]⟩], false⟩
  | _, _ => ⟨[], [], false⟩
theorem rwhere_q : (fun (a0 : Option (List V)) (a1 : List UInt8) (a2 : List UInt8) (a3 : List UInt8) (a4 : List UInt8) (a5 : List UInt8) => stN tabM_7 code rwhere_n FU 24 26 [.a (.v (.pt a0)), .a (.v (.agg [(.str a1), (.str a2), (.str a3), (.str a4), (.str a5)]))] [] rwhere_k) = (fun (a0 : Option (List V)) (a1 : List UInt8) (a2 : List UInt8) (a3 : List UInt8) (a4 : List UInt8) (a5 : List UInt8) => rwhere a0 a1 a2 a3 a4 a5) := by kernel_rfl
noncomputable def tabM_8 : ToldK := addTo tabM_7 26 rwhere_e
theorem rwhere_h : EntryOK tabM_7 code rwhere_n FU 24 26 rwhere_e := by
  intro args os t h
  unfold rwhere_e at h
  split at h
  · rename_i os0 a0 a1 a2 a3 a4 a5
    cases h
    exact ⟨_, _, fun p => (.str p), rwhere_k, ids_all rfl, fun _ _ => rfl, (congrFun (congrFun (congrFun (congrFun (congrFun (congrFun rwhere_q _) _) _) _) _) _), fun sv os p hp => by
      unfold rwhere_k at hp
      split at hp
      · have hp := dTy_ok hp
        split at hp
        · cases hp; exact ⟨rfl, rfl⟩
        · cases hp
      · cases hp⟩
  · cases h
end Go.Proofs.YtbppinniokmdnaaDoor.gd
