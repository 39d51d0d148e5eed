/- The staged evaluator over the program, in normal form: printed by a program (sym.lean), each held against it by the kernel. -/
import Derived.Test.YtmlhdhndjgdoaaaGreatDoorCuCpL
namespace Go.Proofs.YtmlhdhndjgdoaaaGreatDoor.cp
open Go Go.Ev
set_option maxRecDepth 1000000
set_option linter.unusedVariables false
set_option maxHeartbeats 4000000

/-! cubit/cubitlaw24.awake -/
noncomputable def awake24 : Option (Bool) := some true
noncomputable def awake24_e : EntryT
  | [], os => some fun _ K => awake24.bind fun p => K (.a (.v (.bool p))) os
  | _, _ => none
theorem awake24_q : callM (toE tab0_47) code FU 24 6 [] [] = some ⟨.a (.v (.bool true)), []⟩ := by kernel_rfl
noncomputable def tab0_48 : ToldK := addTo tab0_47 6 awake24_e
theorem awake24_h : EntryEv tab0_47 code FU 24 6 awake24_e := by
  intro args os t h
  unfold awake24_e at h
  split at h
  · cases h
    exact ⟨.bool true, ids_all rfl, fun _ _ => rfl, awake24_q⟩
  · cases h
/-! cubit/cubitlaw24.ComposeNames -/
noncomputable def lnames_L0 (v : Vs) : Option (Vs ⊕ Vs) := sel v.1 [((asStr? (hV v.2 0)).bind fun x1 =>
((asStr? (hV v.2 1)).bind fun x2 =>
((asInt? .i64 (hV v.2 2)).bind fun x3 =>
(cond (decide (x3 < (((x1 : List UInt8).length : Nat) : Int)))
((idxL x1 x3).bind fun x4 =>
(cond (((x4.toNat : Nat) : Int) == 123)
(some (.inr (0, [(.v (.bool true))])))
(some (.inl (0, [(.v (.str x1)), (.v (.str x2)), (.v (.int .i64 (IntKind.wrap .i64 (x3 + 1))))])))))
(some (.inr (1, [(.v (.str x1)), (.v (.str x2))])))))))]
noncomputable def lnames (a0 : List UInt8) (a1 : List UInt8) : Option (Bool) :=
((awake24 ).bind fun x0 =>
(cond (!x0)
(some (false))
(cond (decide ((((a0 : List UInt8).length : Nat) : Int) > 60))
(some (true))
(cond (decide ((((a1 : List UInt8).length : Nat) : Int) > 60))
(some (true))
((loopK lnames_L0 FU (0, [(.v (.str a0)), (.v (.str a1)), (.v (.int .i64 0))])).bind fun x5 => sel x5.1 [((asBool? (hV x5.2 0)).bind fun x6 =>
(some (x6))),
((asStr? (hV x5.2 0)).bind fun x7 =>
((asStr? (hV x5.2 1)).bind fun x8 =>
(chk (decide (((x7 : List UInt8).length + ([123, 48, 125] : List UInt8).length) ≤ maxStr))
(chk (decide ((((x7 ++ [123, 48, 125]) : List UInt8).length + (x8 : List UInt8).length) ≤ maxStr))
((cname ((x7 ++ [123, 48, 125]) ++ x8)).bind fun x9 =>
(chk (decide (((x9 : List UInt8).length + ([] : List UInt8).length) ≤ maxStr))
((cname (x9 ++ [])).bind fun x10 =>
(cond (x9 == x10)
(cond (x9 == [])
(cond (decide ((((x9 : List UInt8).length : Nat) : Int) ≤ (IntKind.wrap .i64 ((((x7 : List UInt8).length : Nat) : Int) + (((x8 : List UInt8).length : Nat) : Int)))))
(some (true))
((has24 x8).bind fun x11 =>
(some (x11))))
((idxL x9 0).bind fun x12 =>
(cond (((x12.toNat : Nat) : Int) != 32)
((idxL x9 (IntKind.wrap .i64 ((((x9 : List UInt8).length : Nat) : Int) - 1))).bind fun x13 =>
(cond (((x13.toNat : Nat) : Int) != 32)
(cond (decide ((((x9 : List UInt8).length : Nat) : Int) ≤ (IntKind.wrap .i64 ((((x7 : List UInt8).length : Nat) : Int) + (((x8 : List UInt8).length : Nat) : Int)))))
(some (true))
((has24 x8).bind fun x14 =>
(some (x14))))
((has24 x8).bind fun x15 =>
(some (x15)))))
((has24 x8).bind fun x16 =>
(some (x16))))))
((has24 x8).bind fun x17 =>
(some (x17)))))))))))])))))
noncomputable def lnames_e : List SV → Objs → Option ((β : Type) → (SV → Objs → Option β) → Option β)
  | [.a (.v (.str a0)), .a (.v (.str a1))], os => some fun _ K => (lnames a0 a1).bind fun p => K (.a (.v (.bool p))) os
  | _, _ => none
noncomputable def lnames_k (sv : SV) (os : Objs) : Option (Bool) := match sv, os with
  | .a (.v v), [] => dTy (.t1 (.k .bool)) v fun v => (match v with | (.bool r0) => some (r0) | _ => none)
  | _, _ => none
noncomputable def lnames_n : FuncId → Nat → Ann := fun f n => match f, n with
  | 3, 0 => ⟨[], [⟨[⟨[.a (.h (.t1 (.k .str))), .a (.h (.t1 (.k .str))), .u, .u, .u, .a (.h (.t1 (.k (.int .i64)))), .u, .u, .u, .u, .u, .u, .u, .u, .u, .u, .u, .u, .u, .u, .u, .u, .u, .u, .u, .u, .u, .u, .u, .u, .u, .u, .u, .u, .u, .u, .u, .u, .u, .u, .u, .u, .u, .u, .u, .u, .u, .u, .u, .u, .u, .u, .u, .u, .u, .u, .u, .u, .u, .u, .u, .u, .u, .u, .u, .u, .u, .u], []⟩], [(.ret, ⟨[.u, .u, .u, .u, .a (.h (.t1 (.k .bool))), .u, .u, .u, .u, .u, .u, .u, .u, .u, .u, .u, .u, .u, .u, .u, .u, .u, .u, .u, .u, .u, .u, .u, .u, .u, .u, .u, .u, .u, .u, .u, .u, .u, .u, .u, .u, .u, .u, .u, .u, .u, .u, .u, .u, .u, .u, .u, .u, .u, .u, .u, .u, .u, .u, .u, .u, .u, .u, .u, .u, .u, .u, .u], []⟩), ((.ex 0), ⟨[.a (.h (.t1 (.k .str))), .a (.h (.t1 (.k .str))), .u, .u, .u, .u, .u, .u, .u, .u, .u, .u, .u, .u, .u, .u, .u, .u, .u, .u, .u, .u, .u, .u, .u, .u, .u, .u, .u, .u, .u, .u, .u, .u, .u, .u, .u, .u, .u, .u, .u, .u, .u, .u, .u, .u, .u, .u, .u, .u, .u, .u, .u, .u, .u, .u, .u, .u, .u, .u, .u, .u, .u, .u, .u, .u, .u, .u], []⟩)]⟩], false⟩
  | _, _ => ⟨[], [], false⟩
theorem lnames_q : (fun (a0 : List UInt8) (a1 : List UInt8) => stN tab0_48 code lnames_n FU 24 3 [.a (.v (.str a0)), .a (.v (.str a1))] [] lnames_k) = (fun (a0 : List UInt8) (a1 : List UInt8) => lnames a0 a1) := by kernel_rfl
noncomputable def tab0_49 : ToldK := addTo tab0_48 3 lnames_e
theorem lnames_h : EntryOK tab0_48 code lnames_n FU 24 3 lnames_e := by
  intro args os t h
  unfold lnames_e at h
  split at h
  · rename_i os0 a0 a1
    cases h
    exact ⟨_, _, fun p => (.bool p), lnames_k, ids_all rfl, fun _ _ => rfl, (congrFun (congrFun lnames_q _) _), fun sv os p hp => by
      unfold lnames_k at hp
      split at hp
      · have hp := dTy_ok hp
        split at hp
        · cases hp; exact ⟨rfl, rfl⟩
        · cases hp
      · cases hp⟩
  · cases h
/-! cubit/cubitlaw24.ComposeOne -/
noncomputable def lone (a0 : Option (List V)) (a1 : List UInt8) (a2 : List UInt8) (a3 : List UInt8) (a4 : List UInt8) (a5 : List UInt8) (a6 : List UInt8) (a7 : Int) : Option (Bool) :=
((awake24 ).bind fun x0 =>
(cond (!x0)
(some (false))
((heavy24 a0).bind fun x1 =>
(cond x1
(some (true))
((ashow a5 a6 a7).bind fun x2 =>
(cond (x2 == [])
(some (true))
((pload a0).bind fun x3 =>
((gload a0).bind fun x4 =>
(cond (x3.2.2 != 0)
(cond (x3.2.2 != 0)
(some (true))
(some ((x4.2.2 != 0))))
(cond (x4.2.2 != 0)
(cond (x3.2.2 != 0)
(some (true))
(some ((x4.2.2 != 0))))
(cond (x3.1.isNone)
(cond (x3.2.2 != 0)
(some (true))
(some ((x4.2.2 != 0))))
(cond (x4.1.isNone)
(cond (x3.2.2 != 0)
(some (true))
(some ((x4.2.2 != 0))))
((ashow a5 a6 a7).bind fun x5 =>
((pfind x3.1 [119, 111, 114, 100] a1 a2 x5 a3 a4).bind fun x6 =>
((nof 1).bind fun x7 =>
((cpart x3.1 x4.1 a1 a2 a3 a4 (some [(.agg [(.str a5), (.str a6), (.int .i64 a7)])]) none x7).bind fun x8 =>
((catom x3.1 x4.1 a1 a2 a3 a4 a5 a6 a7).bind fun x9 =>
(cond (!x6.2)
(some (((x8.2 == 0) == (x9.2 == 0))))
(cond (x8.2 == 0)
(cond (x9.2 == 0)
((cname x6.1).bind fun x10 =>
(cond (x9.1 == x10)
((cname x8.1).bind fun x11 =>
(some ((x11 == x9.1))))
(some (false))))
(some (false)))
(some (false)))))))))))))))))))))
noncomputable def lone_e : List SV → Objs → Option ((β : Type) → (SV → Objs → Option β) → Option β)
  | [.a (.v (.sl a0)), .a (.v (.agg [(.str a1), (.str a2), (.str a3), (.str a4)])), .a (.v (.agg [(.str a5), (.str a6), (.int .i64 a7)]))], os => some fun _ K => (lone a0 a1 a2 a3 a4 a5 a6 a7).bind fun p => K (.a (.v (.bool p))) os
  | _, _ => none
noncomputable def lone_k (sv : SV) (os : Objs) : Option (Bool) := match sv, os with
  | .a (.v v), [] => dTy (.t1 (.k .bool)) v fun v => (match v with | (.bool r0) => some (r0) | _ => none)
  | _, _ => none
noncomputable def lone_n : FuncId → Nat → Ann := fun f n => match f, n with
  | _, _ => ⟨[], [], false⟩
theorem lone_q : (fun (a0 : Option (List V)) (a1 : List UInt8) (a2 : List UInt8) (a3 : List UInt8) (a4 : List UInt8) (a5 : List UInt8) (a6 : List UInt8) (a7 : Int) => stN tab0_49 code lone_n FU 24 5 [.a (.v (.sl a0)), .a (.v (.agg [(.str a1), (.str a2), (.str a3), (.str a4)])), .a (.v (.agg [(.str a5), (.str a6), (.int .i64 a7)]))] [] lone_k) = (fun (a0 : Option (List V)) (a1 : List UInt8) (a2 : List UInt8) (a3 : List UInt8) (a4 : List UInt8) (a5 : List UInt8) (a6 : List UInt8) (a7 : Int) => lone a0 a1 a2 a3 a4 a5 a6 a7) := by kernel_rfl
noncomputable def tab0_50 : ToldK := addTo tab0_49 5 lone_e
theorem lone_h : EntryOK tab0_49 code lone_n FU 24 5 lone_e := by
  intro args os t h
  unfold lone_e at h
  split at h
  · rename_i os0 a0 a1 a2 a3 a4 a5 a6 a7
    cases h
    exact ⟨_, _, fun p => (.bool p), lone_k, ids_all rfl, fun _ _ => rfl, (congrFun (congrFun (congrFun (congrFun (congrFun (congrFun (congrFun (congrFun lone_q _) _) _) _) _) _) _) _), fun sv os p hp => by
      unfold lone_k at hp
      split at hp
      · have hp := dTy_ok hp
        split at hp
        · cases hp; exact ⟨rfl, rfl⟩
        · cases hp
      · cases hp⟩
  · cases h
end Go.Proofs.YtmlhdhndjgdoaaaGreatDoor.cp
