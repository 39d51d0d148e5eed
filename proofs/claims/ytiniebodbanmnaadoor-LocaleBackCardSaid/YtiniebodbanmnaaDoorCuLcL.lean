/- The staged evaluator over the program, in normal form: printed by a program (sym.lean), each held against it by the kernel. -/
import Derived.Test.YtiniebodbanmnaaDoorCuLcC
namespace Go.Proofs.YtiniebodbanmnaaDoor.lc
open Go Go.Ev
set_option maxRecDepth 1000000
set_option linter.unusedVariables false
set_option maxHeartbeats 4000000

/-! cubit/locale.cutLeft -/
noncomputable abbrev cutLeft := Go.Ev.cutLeft
noncomputable def cutLeft_e : List SV → Objs → Option ((β : Type) → (SV → Objs → Option β) → Option β)
  | [.a (.v (.str a0)), .a (.v (.str a1))], os => some fun _ K => (cutLeft a0 a1).bind fun p => K (.a (.v (.str p))) os
  | _, _ => none
noncomputable def cutLeft_k (sv : SV) (os : Objs) : Option (List UInt8) := match sv, os with
  | .a (.v v), [] => dTy (.t1 (.k .str)) v fun v => (match v with | (.str r0) => some (r0) | _ => none)
  | _, _ => none
noncomputable def cutLeft_n : FuncId → Nat → Ann := fun f n => match f, n with
  | 25, 0 => ⟨[], [⟨[⟨[.a (.h (.t1 (.k .str))), .a (.h (.t1 (.k .str))), .u, .u, .u, .u, .u, .u, .u, .u, .u, .a (.itr 0), .u, .u, .u, .u, .u, .u, .u, .u, .u, .u, .u, .u, .u, .u, .u, .u, .u, .u, .u, .u], [.iter]⟩], [(.ret, ⟨[.u, .u, .u, .u, .a (.h (.t1 (.k .str))), .u, .u, .u, .u, .u, .u, .u, .u, .u, .u, .u, .u, .u, .u, .u, .u, .u, .u, .u, .u, .u, .u, .u, .u, .u, .u, .u], []⟩), ((.ex 0), ⟨[.u, .u, .u, .u, .u, .u, .u, .u, .u, .u, .u, .u, .u, .u, .u, .u, .u, .u, .u, .u, .u, .u, .u, .u, .u, .u, .u, .u, .u, .u, .u, .u], []⟩)]⟩, ⟨[⟨[.a (.h (.t1 (.k .str))), .a (.h (.t1 (.k .str))), .u, .u, .u, .a (.h (.t1 (.k (.int .i64)))), .a (.h (.t1 (.k (.int .i32)))), .a (.h (.t1 (.k .bool))), .u, .u, .u, .a (.itr 0), .u, .u, .u, .u, .u, .a (.itr 1), .u, .u, .u, .u, .u, .u, .u, .u, .u, .u, .u, .u, .u, .u], [.iter, .iter]⟩], [((.ex 2), ⟨[.a (.h (.t1 (.k .str))), .a (.h (.t1 (.k .str))), .u, .u, .u, .a (.h (.t1 (.k (.int .i64)))), .u, .a (.h (.t1 (.k .bool))), .u, .u, .u, .a (.itr 0), .u, .u, .u, .u, .u, .u, .u, .u, .u, .u, .u, .u, .u, .u, .u, .u, .u, .u, .u, .u], [.iter]⟩)]⟩], false⟩
  | _, _ => ⟨[], [], false⟩
theorem cutLeft_q : (fun (a0 : List UInt8) (a1 : List UInt8) => stN tab0 code cutLeft_n FU 24 25 [.a (.v (.str a0)), .a (.v (.str a1))] [] cutLeft_k) = (fun (a0 : List UInt8) (a1 : List UInt8) => cutLeft a0 a1) := by kernel_rfl
noncomputable def tab0_1 : ToldK := addTo tab0 25 cutLeft_e
theorem cutLeft_h : EntryOK tab0 code cutLeft_n FU 24 25 cutLeft_e := by
  intro args os t h
  unfold cutLeft_e at h
  split at h
  · rename_i os0 a0 a1
    cases h
    exact ⟨_, _, fun p => (.str p), cutLeft_k, ids_all rfl, fun _ _ => rfl, (congrFun (congrFun cutLeft_q _) _), fun sv os p hp => by
      unfold cutLeft_k at hp
      split at hp
      · have hp := dTy_ok hp
        split at hp
        · cases hp; exact ⟨rfl, rfl⟩
        · cases hp
      · cases hp⟩
  · cases h
/-! cubit/locale.cutRight -/
noncomputable abbrev cutRight := Go.Ev.cutRight
noncomputable def cutRight_e : List SV → Objs → Option ((β : Type) → (SV → Objs → Option β) → Option β)
  | [.a (.v (.str a0)), .a (.v (.str a1))], os => some fun _ K => (cutRight a0 a1).bind fun p => K (.a (.v (.str p))) os
  | _, _ => none
noncomputable def cutRight_k (sv : SV) (os : Objs) : Option (List UInt8) := match sv, os with
  | .a (.v v), [] => dTy (.t1 (.k .str)) v fun v => (match v with | (.str r0) => some (r0) | _ => none)
  | _, _ => none
noncomputable def cutRight_n : FuncId → Nat → Ann := fun f n => match f, n with
  | 24, 0 => ⟨[], [⟨[⟨[.a (.h (.t1 (.k .str))), .a (.h (.t1 (.k .str))), .u, .u, .u, .u, .u, .u, .u, .u, .u, .u, .u, .u, .u, .u, .u, .u, .u, .u, .u, .u, .u, .u, .u, .u, .u, .u, .u, .u, .u, .u, .u, .u, .u, .u, .u, .u, .u], []⟩], [(.ret, ⟨[.u, .u, .u, .u, .a (.h (.t1 (.k .str))), .u, .u, .u, .u, .u, .u, .u, .u, .u, .u, .u, .u, .u, .u, .u, .u, .u, .u, .u, .u, .u, .u, .u, .u, .u, .u, .u, .u, .u, .u, .u, .u, .u, .u], []⟩), ((.ex 0), ⟨[.a (.h (.t1 (.k .str))), .u, .u, .u, .u, .u, .u, .u, .u, .u, .u, .u, .u, .u, .u, .u, .u, .u, .u, .u, .u, .u, .u, .u, .u, .u, .u, .u, .u, .u, .u, .u, .u, .u, .u, .u, .u, .u, .u], []⟩)]⟩, ⟨[⟨[.a (.h (.t1 (.k .str))), .a (.h (.t1 (.k .str))), .u, .u, .u, .a (.h (.t1 (.k (.int .i32)))), .a (.h (.t1 (.k (.int .i64)))), .a (.h (.t1 (.k .bool))), .u, .u, .u, .u, .u, .u, .u, .u, .u, .u, .u, .a (.itr 0), .u, .u, .u, .u, .u, .u, .u, .u, .u, .u, .u, .u, .u, .u, .u, .u, .u, .u, .u], [.iter]⟩], [((.ex 2), ⟨[.a (.h (.t1 (.k .str))), .a (.h (.t1 (.k .str))), .u, .u, .u, .u, .a (.h (.t1 (.k (.int .i64)))), .a (.h (.t1 (.k .bool))), .u, .u, .u, .u, .u, .u, .u, .u, .u, .u, .u, .u, .u, .u, .u, .u, .u, .u, .u, .u, .u, .u, .u, .u, .u, .u, .u, .u, .u, .u, .u], []⟩)]⟩], false⟩
  | _, _ => ⟨[], [], false⟩
theorem cutRight_q : (fun (a0 : List UInt8) (a1 : List UInt8) => stN tab0_1 code cutRight_n FU 24 24 [.a (.v (.str a0)), .a (.v (.str a1))] [] cutRight_k) = (fun (a0 : List UInt8) (a1 : List UInt8) => cutRight a0 a1) := by kernel_rfl
noncomputable def tab0_2 : ToldK := addTo tab0_1 24 cutRight_e
theorem cutRight_h : EntryOK tab0_1 code cutRight_n FU 24 24 cutRight_e := by
  intro args os t h
  unfold cutRight_e at h
  split at h
  · rename_i os0 a0 a1
    cases h
    exact ⟨_, _, fun p => (.str p), cutRight_k, ids_all rfl, fun _ _ => rfl, (congrFun (congrFun cutRight_q _) _), fun sv os p hp => by
      unfold cutRight_k at hp
      split at hp
      · have hp := dTy_ok hp
        split at hp
        · cases hp; exact ⟨rfl, rfl⟩
        · cases hp
      · cases hp⟩
  · cases h
/-! cubit/locale.of -/
noncomputable def rof (a0 : List UInt8) (a1 : List UInt8) (a2 : Int) (a3 : Int) : Option (Bool) :=
(cond (decide ((((a0 : List UInt8).length : Nat) : Int) ≥ a2))
(cond (decide ((((a0 : List UInt8).length : Nat) : Int) ≤ a3))
((cutLeft a0 a1).bind fun x0 =>
((cutRight x0 a1).bind fun x1 =>
(some ((x1 == [])))))
(some (false)))
(some (false)))
noncomputable def rof_e : List SV → Objs → Option ((β : Type) → (SV → Objs → Option β) → Option β)
  | [.a (.v (.str a0)), .a (.v (.str a1)), .a (.v (.int .i64 a2)), .a (.v (.int .i64 a3))], os => some fun _ K => (rof a0 a1 a2 a3).bind fun p => K (.a (.v (.bool p))) os
  | _, _ => none
noncomputable def rof_k (sv : SV) (os : Objs) : Option (Bool) := match sv, os with
  | .a (.v v), [] => dTy (.t1 (.k .bool)) v fun v => (match v with | (.bool r0) => some (r0) | _ => none)
  | _, _ => none
noncomputable def rof_n : FuncId → Nat → Ann := fun f n => match f, n with
  | _, _ => ⟨[], [], false⟩
theorem rof_q : (fun (a0 : List UInt8) (a1 : List UInt8) (a2 : Int) (a3 : Int) => stN tab0_2 code rof_n FU 24 17 [.a (.v (.str a0)), .a (.v (.str a1)), .a (.v (.int .i64 a2)), .a (.v (.int .i64 a3))] [] rof_k) = (fun (a0 : List UInt8) (a1 : List UInt8) (a2 : Int) (a3 : Int) => rof a0 a1 a2 a3) := by kernel_rfl
noncomputable def tab0_3 : ToldK := addTo tab0_2 17 rof_e
theorem rof_h : EntryOK tab0_2 code rof_n FU 24 17 rof_e := by
  intro args os t h
  unfold rof_e at h
  split at h
  · rename_i os0 a0 a1 a2 a3
    cases h
    exact ⟨_, _, fun p => (.bool p), rof_k, ids_all rfl, fun _ _ => rfl, (congrFun (congrFun (congrFun (congrFun rof_q _) _) _) _), fun sv os p hp => by
      unfold rof_k at hp
      split at hp
      · have hp := dTy_ok hp
        split at hp
        · cases hp; exact ⟨rfl, rfl⟩
        · cases hp
      · cases hp⟩
  · cases h
/-! cubit/locale.lang -/
noncomputable def llang (a0 : List UInt8) : Option (Bool) :=
((rof a0 [97, 98, 99, 100, 101, 102, 103, 104, 105, 106, 107, 108, 109, 110, 111, 112, 113, 114, 115, 116, 117, 118, 119, 120, 121, 122] 2 3).bind fun x0 =>
(some (x0)))
noncomputable def llang_e : List SV → Objs → Option ((β : Type) → (SV → Objs → Option β) → Option β)
  | [.a (.v (.str a0))], os => some fun _ K => (llang a0).bind fun p => K (.a (.v (.bool p))) os
  | _, _ => none
noncomputable def llang_k (sv : SV) (os : Objs) : Option (Bool) := match sv, os with
  | .a (.v v), [] => dTy (.t1 (.k .bool)) v fun v => (match v with | (.bool r0) => some (r0) | _ => none)
  | _, _ => none
noncomputable def llang_n : FuncId → Nat → Ann := fun f n => match f, n with
  | _, _ => ⟨[], [], false⟩
theorem llang_q : (fun (a0 : List UInt8) => stN tab0_3 code llang_n FU 24 12 [.a (.v (.str a0))] [] llang_k) = (fun (a0 : List UInt8) => llang a0) := by kernel_rfl
noncomputable def tab0_4 : ToldK := addTo tab0_3 12 llang_e
theorem llang_h : EntryOK tab0_3 code llang_n FU 24 12 llang_e := by
  intro args os t h
  unfold llang_e at h
  split at h
  · rename_i os0 a0
    cases h
    exact ⟨_, _, fun p => (.bool p), llang_k, ids_all rfl, fun _ _ => rfl, (congrFun llang_q _), fun sv os p hp => by
      unfold llang_k at hp
      split at hp
      · have hp := dTy_ok hp
        split at hp
        · cases hp; exact ⟨rfl, rfl⟩
        · cases hp
      · cases hp⟩
  · cases h
/-! cubit/locale.region -/
noncomputable def lregion (a0 : List UInt8) : Option (Bool) :=
((rof a0 [65, 66, 67, 68, 69, 70, 71, 72, 73, 74, 75, 76, 77, 78, 79, 80, 81, 82, 83, 84, 85, 86, 87, 88, 89, 90] 2 2).bind fun x0 =>
(cond x0
(some (true))
((rof a0 [48, 49, 50, 51, 52, 53, 54, 55, 56, 57] 3 3).bind fun x1 =>
(some (x1)))))
noncomputable def lregion_e : List SV → Objs → Option ((β : Type) → (SV → Objs → Option β) → Option β)
  | [.a (.v (.str a0))], os => some fun _ K => (lregion a0).bind fun p => K (.a (.v (.bool p))) os
  | _, _ => none
noncomputable def lregion_k (sv : SV) (os : Objs) : Option (Bool) := match sv, os with
  | .a (.v v), [] => dTy (.t1 (.k .bool)) v fun v => (match v with | (.bool r0) => some (r0) | _ => none)
  | _, _ => none
noncomputable def lregion_n : FuncId → Nat → Ann := fun f n => match f, n with
  | _, _ => ⟨[], [], false⟩
theorem lregion_q : (fun (a0 : List UInt8) => stN tab0_4 code lregion_n FU 24 13 [.a (.v (.str a0))] [] lregion_k) = (fun (a0 : List UInt8) => lregion a0) := by kernel_rfl
noncomputable def tab0_5 : ToldK := addTo tab0_4 13 lregion_e
theorem lregion_h : EntryOK tab0_4 code lregion_n FU 24 13 lregion_e := by
  intro args os t h
  unfold lregion_e at h
  split at h
  · rename_i os0 a0
    cases h
    exact ⟨_, _, fun p => (.bool p), lregion_k, ids_all rfl, fun _ _ => rfl, (congrFun lregion_q _), fun sv os p hp => by
      unfold lregion_k at hp
      split at hp
      · have hp := dTy_ok hp
        split at hp
        · cases hp; exact ⟨rfl, rfl⟩
        · cases hp
      · cases hp⟩
  · cases h
/-! cubit/locale.Parse -/
noncomputable def lparse_L0 (v : Vs) : Option (Vs ⊕ Vs) := sel v.1 [((asSl? (hV v.2 0)).bind fun x14 =>
((asStr? (hV v.2 1)).bind fun x15 =>
((asStr? (hV v.2 2)).bind fun x16 =>
((asStr? (hV v.2 3)).bind fun x17 =>
((asStr? (hV v.2 4)).bind fun x18 =>
((asStr? (hV v.2 5)).bind fun x19 =>
((asStr? (hV v.2 6)).bind fun x20 =>
((asStr? (hV v.2 7)).bind fun x21 =>
((asStr? (hV v.2 8)).bind fun x22 =>
((asStr? (hV v.2 9)).bind fun x23 =>
((asStr? (hV v.2 10)).bind fun x24 =>
(cond (decide (((slLen x14 : Nat) : Int) > 0))
((idxL (x14.getD []) 0).bind fun x25 =>
((asStr? x25).bind fun x26 =>
((idxL (x14.getD []) 1).bind fun x27 =>
((asStr? x27).bind fun x28 =>
(cond (x26 == [114, 103])
(cond (decide ((((x28 : List UInt8).length : Nat) : Int) ≥ 4))
((cutL (some (IntKind.wrap .i64 ((((x28 : List UInt8).length : Nat) : Int) - 4))) none x28).bind fun x29 =>
(cond (!(x29 == [122, 122, 122, 122]))
(some (.inr (0, [(.v (.int .i64 2)), (.v (.str [])), (.v (.str [])), (.v (.str [])), (.v (.str [])), (.v (.str []))])))
((cutL none (some (IntKind.wrap .i64 ((((x28 : List UInt8).length : Nat) : Int) - 4))) x28).bind fun x30 =>
(cond (!(x22 == []))
(some (.inr (0, [(.v (.int .i64 2)), (.v (.str [])), (.v (.str [])), (.v (.str [])), (.v (.str [])), (.v (.str []))])))
((rof x30 [97, 98, 99, 100, 101, 102, 103, 104, 105, 106, 107, 108, 109, 110, 111, 112, 113, 114, 115, 116, 117, 118, 119, 120, 121, 122] 2 2).bind fun x31 =>
(cond (!x31)
((rof x30 [48, 49, 50, 51, 52, 53, 54, 55, 56, 57] 3 3).bind fun x32 =>
(cond (!x32)
(some (.inr (0, [(.v (.int .i64 2)), (.v (.str [])), (.v (.str [])), (.v (.str [])), (.v (.str [])), (.v (.str []))])))
((upr x30).bind fun x33 =>
((cutSl 1 (some 2) none x14).bind fun x34 =>
(some (.inl (0, [(.v (.sl x34)), (.v (.str x15)), (.v (.str x16)), (.v (.str x17)), (.v (.str x18)), (.v (.str x19)), (.v (.str x20)), (.v (.str x21)), (.v (.str x33)), (.v (.str x23)), (.v (.str x24))])))))))
((upr x30).bind fun x35 =>
((cutSl 1 (some 2) none x14).bind fun x36 =>
(some (.inl (0, [(.v (.sl x36)), (.v (.str x15)), (.v (.str x16)), (.v (.str x17)), (.v (.str x18)), (.v (.str x19)), (.v (.str x20)), (.v (.str x21)), (.v (.str x35)), (.v (.str x23)), (.v (.str x24))])))))))))))
(some (.inr (0, [(.v (.int .i64 2)), (.v (.str [])), (.v (.str [])), (.v (.str [])), (.v (.str [])), (.v (.str []))]))))
(cond (x26 == [109, 115])
(cond (!(x23 == []))
(some (.inr (0, [(.v (.int .i64 2)), (.v (.str [])), (.v (.str [])), (.v (.str [])), (.v (.str [])), (.v (.str []))])))
(cond (!(x28 == [109, 101, 116, 114, 105, 99]))
(cond (!(x28 == [117, 115, 115, 121, 115, 116, 101, 109]))
(cond (!(x28 == [117, 107, 115, 121, 115, 116, 101, 109]))
(some (.inr (0, [(.v (.int .i64 2)), (.v (.str [])), (.v (.str [])), (.v (.str [])), (.v (.str [])), (.v (.str []))])))
((cutSl 1 (some 2) none x14).bind fun x37 =>
(some (.inl (0, [(.v (.sl x37)), (.v (.str x15)), (.v (.str x16)), (.v (.str x17)), (.v (.str x18)), (.v (.str x19)), (.v (.str x20)), (.v (.str x21)), (.v (.str x22)), (.v (.str x28)), (.v (.str x24))])))))
((cutSl 1 (some 2) none x14).bind fun x38 =>
(some (.inl (0, [(.v (.sl x38)), (.v (.str x15)), (.v (.str x16)), (.v (.str x17)), (.v (.str x18)), (.v (.str x19)), (.v (.str x20)), (.v (.str x21)), (.v (.str x22)), (.v (.str x28)), (.v (.str x24))])))))
((cutSl 1 (some 2) none x14).bind fun x39 =>
(some (.inl (0, [(.v (.sl x39)), (.v (.str x15)), (.v (.str x16)), (.v (.str x17)), (.v (.str x18)), (.v (.str x19)), (.v (.str x20)), (.v (.str x21)), (.v (.str x22)), (.v (.str x28)), (.v (.str x24))]))))))
(cond (x26 == [109, 117])
(cond (!(x24 == []))
(some (.inr (0, [(.v (.int .i64 2)), (.v (.str [])), (.v (.str [])), (.v (.str [])), (.v (.str [])), (.v (.str []))])))
(cond (!(x28 == [99, 101, 108, 115, 105, 117, 115]))
(cond (!(x28 == [102, 97, 104, 114, 101, 110, 104, 101]))
(cond (!(x28 == [107, 101, 108, 118, 105, 110]))
(some (.inr (0, [(.v (.int .i64 2)), (.v (.str [])), (.v (.str [])), (.v (.str [])), (.v (.str [])), (.v (.str []))])))
((cutSl 1 (some 2) none x14).bind fun x40 =>
(some (.inl (0, [(.v (.sl x40)), (.v (.str x15)), (.v (.str x16)), (.v (.str x17)), (.v (.str x18)), (.v (.str x19)), (.v (.str x20)), (.v (.str x21)), (.v (.str x22)), (.v (.str x23)), (.v (.str x28))])))))
((cutSl 1 (some 2) none x14).bind fun x41 =>
(some (.inl (0, [(.v (.sl x41)), (.v (.str x15)), (.v (.str x16)), (.v (.str x17)), (.v (.str x18)), (.v (.str x19)), (.v (.str x20)), (.v (.str x21)), (.v (.str x22)), (.v (.str x23)), (.v (.str x28))])))))
((cutSl 1 (some 2) none x14).bind fun x42 =>
(some (.inl (0, [(.v (.sl x42)), (.v (.str x15)), (.v (.str x16)), (.v (.str x17)), (.v (.str x18)), (.v (.str x19)), (.v (.str x20)), (.v (.str x21)), (.v (.str x22)), (.v (.str x23)), (.v (.str x28))]))))))
(some (.inr (0, [(.v (.int .i64 2)), (.v (.str [])), (.v (.str [])), (.v (.str [])), (.v (.str [])), (.v (.str []))]))))))))))
(some (.inr (1, [(.v (.str x15)), (.v (.str x16)), (.v (.str x17)), (.v (.str x18)), (.v (.str x19)), (.v (.str x20)), (.v (.str x21)), (.v (.str x22)), (.v (.str x23)), (.v (.str x24))])))))))))))))))]
noncomputable def lparse (a0 : List UInt8) : Option (List UInt8 × List UInt8 × List UInt8 × List UInt8 × List UInt8 × Int) :=
((spl a0 [45]).bind fun x0 =>
((idxL (x0.getD []) 0).bind fun x1 =>
((asStr? x1).bind fun x2 =>
((llang x2).bind fun x3 =>
(cond (!x3)
(some ([], [], [], [], [], 2))
((cutSl 1 (some 1) none x0).bind fun x4 =>
(cond (decide (((slLen x4 : Nat) : Int) > 0))
((idxL (x4.getD []) 0).bind fun x5 =>
((asStr? x5).bind fun x6 =>
((lregion x6).bind fun x7 =>
(cond x7
((idxL (x4.getD []) 0).bind fun x8 =>
((asStr? x8).bind fun x9 =>
((cutSl 1 (some 1) none x4).bind fun x10 =>
(cond (((slLen x10 : Nat) : Int) == 0)
(some (x2, x9, [], [], [], 0))
((idxL (x10.getD []) 0).bind fun x11 =>
((asStr? x11).bind fun x12 =>
(cond (!(x12 == [117]))
(some ([], [], [], [], [], 2))
(cond (((slLen x10 : Nat) : Int) == 1)
(some ([], [], [], [], [], 2))
(cond ((Int.tmod ((slLen x10 : Nat) : Int) 2) == 0)
(some ([], [], [], [], [], 2))
((cutSl 1 (some 1) none x10).bind fun x13 =>
((loopK lparse_L0 FU (0, [(.v (.sl x13)), (.v (.str [])), (.v (.str [])), (.v (.str [])), (.v (.str [])), (.v (.str [])), (.v (.str x2)), (.v (.str x9)), (.v (.str [])), (.v (.str [])), (.v (.str []))])).bind fun x43 => sel x43.1 [((asInt? .i64 (hV x43.2 0)).bind fun x44 =>
((asStr? (hV x43.2 1)).bind fun x45 =>
((asStr? (hV x43.2 2)).bind fun x46 =>
((asStr? (hV x43.2 3)).bind fun x47 =>
((asStr? (hV x43.2 4)).bind fun x48 =>
((asStr? (hV x43.2 5)).bind fun x49 =>
(some (x45, x46, x47, x48, x49, x44)))))))),
((asStr? (hV x43.2 0)).bind fun x50 =>
((asStr? (hV x43.2 1)).bind fun x51 =>
((asStr? (hV x43.2 2)).bind fun x52 =>
((asStr? (hV x43.2 3)).bind fun x53 =>
((asStr? (hV x43.2 4)).bind fun x54 =>
((asStr? (hV x43.2 5)).bind fun x55 =>
((asStr? (hV x43.2 6)).bind fun x56 =>
((asStr? (hV x43.2 7)).bind fun x57 =>
((asStr? (hV x43.2 8)).bind fun x58 =>
((asStr? (hV x43.2 9)).bind fun x59 =>
(some (x55, x56, x57, x58, x59, 0))))))))))))])))))))))))
(cond (((slLen x4 : Nat) : Int) == 0)
(some (x2, [], [], [], [], 0))
((idxL (x4.getD []) 0).bind fun x60 =>
((asStr? x60).bind fun x61 =>
(cond (!(x61 == [117]))
(some ([], [], [], [], [], 2))
(cond (((slLen x4 : Nat) : Int) == 1)
(some ([], [], [], [], [], 2))
(cond ((Int.tmod ((slLen x4 : Nat) : Int) 2) == 0)
(some ([], [], [], [], [], 2))
((cutSl 1 (some 1) none x4).bind fun x62 =>
((loopK lparse_L0 FU (0, [(.v (.sl x62)), (.v (.str [])), (.v (.str [])), (.v (.str [])), (.v (.str [])), (.v (.str [])), (.v (.str x2)), (.v (.str [])), (.v (.str [])), (.v (.str [])), (.v (.str []))])).bind fun x92 => sel x92.1 [((asInt? .i64 (hV x92.2 0)).bind fun x93 =>
((asStr? (hV x92.2 1)).bind fun x94 =>
((asStr? (hV x92.2 2)).bind fun x95 =>
((asStr? (hV x92.2 3)).bind fun x96 =>
((asStr? (hV x92.2 4)).bind fun x97 =>
((asStr? (hV x92.2 5)).bind fun x98 =>
(some (x94, x95, x96, x97, x98, x93)))))))),
((asStr? (hV x92.2 0)).bind fun x99 =>
((asStr? (hV x92.2 1)).bind fun x100 =>
((asStr? (hV x92.2 2)).bind fun x101 =>
((asStr? (hV x92.2 3)).bind fun x102 =>
((asStr? (hV x92.2 4)).bind fun x103 =>
((asStr? (hV x92.2 5)).bind fun x104 =>
((asStr? (hV x92.2 6)).bind fun x105 =>
((asStr? (hV x92.2 7)).bind fun x106 =>
((asStr? (hV x92.2 8)).bind fun x107 =>
((asStr? (hV x92.2 9)).bind fun x108 =>
(some (x104, x105, x106, x107, x108, 0))))))))))))]))))))))))))
(cond (((slLen x4 : Nat) : Int) == 0)
(some (x2, [], [], [], [], 0))
((idxL (x4.getD []) 0).bind fun x109 =>
((asStr? x109).bind fun x110 =>
(cond (!(x110 == [117]))
(some ([], [], [], [], [], 2))
(cond (((slLen x4 : Nat) : Int) == 1)
(some ([], [], [], [], [], 2))
(cond ((Int.tmod ((slLen x4 : Nat) : Int) 2) == 0)
(some ([], [], [], [], [], 2))
((cutSl 1 (some 1) none x4).bind fun x111 =>
((loopK lparse_L0 FU (0, [(.v (.sl x111)), (.v (.str [])), (.v (.str [])), (.v (.str [])), (.v (.str [])), (.v (.str [])), (.v (.str x2)), (.v (.str [])), (.v (.str [])), (.v (.str [])), (.v (.str []))])).bind fun x141 => sel x141.1 [((asInt? .i64 (hV x141.2 0)).bind fun x142 =>
((asStr? (hV x141.2 1)).bind fun x143 =>
((asStr? (hV x141.2 2)).bind fun x144 =>
((asStr? (hV x141.2 3)).bind fun x145 =>
((asStr? (hV x141.2 4)).bind fun x146 =>
((asStr? (hV x141.2 5)).bind fun x147 =>
(some (x143, x144, x145, x146, x147, x142)))))))),
((asStr? (hV x141.2 0)).bind fun x148 =>
((asStr? (hV x141.2 1)).bind fun x149 =>
((asStr? (hV x141.2 2)).bind fun x150 =>
((asStr? (hV x141.2 3)).bind fun x151 =>
((asStr? (hV x141.2 4)).bind fun x152 =>
((asStr? (hV x141.2 5)).bind fun x153 =>
((asStr? (hV x141.2 6)).bind fun x154 =>
((asStr? (hV x141.2 7)).bind fun x155 =>
((asStr? (hV x141.2 8)).bind fun x156 =>
((asStr? (hV x141.2 9)).bind fun x157 =>
(some (x153, x154, x155, x156, x157, 0))))))))))))])))))))))))))))
noncomputable def lparse_e : List SV → Objs → Option ((β : Type) → (SV → Objs → Option β) → Option β)
  | [.a (.v (.str a0))], os => some fun _ K => (lparse a0).bind fun p => K (.a (.v (.tup [(.agg [(.str p.1), (.str p.2.1), (.str p.2.2.1), (.str p.2.2.2.1), (.str p.2.2.2.2.1)]), (.int .i64 p.2.2.2.2.2)]))) os
  | _, _ => none
noncomputable def lparse_k (sv : SV) (os : Objs) : Option (List UInt8 × List UInt8 × List UInt8 × List UInt8 × List UInt8 × Int) := match sv, os with
  | .a (.v v), [] => dTy (.tup [(.agg [.str, .str, .str, .str, .str]), (.k (.int .i64))]) v fun v => (match v with | (.tup [(.agg [(.str r0), (.str r1), (.str r2), (.str r3), (.str r4)]), (.int .i64 r5)]) => some (r0, r1, r2, r3, r4, r5) | _ => none)
  | _, _ => none
noncomputable def lparse_n : FuncId → Nat → Ann := fun f n => match f, n with
  | 7, 0 => ⟨[(9, (.t1 (.k .str))), (24, (.t1 (.k .str))), (29, (.t1 (.k .str))), (39, (.t1 (.k .str))), (62, (.t1 (.k .str))), (65, (.t1 (.k .str)))], [⟨[⟨[.u, .u, .a (.loc 0 0), .u, .a (.h (.t1 (.k .sl))), .a (.loc 1 0), .u, .u, .u, .u, .u, .u, .u, .u, .u, .u, .u, .u, .u, .u, .u, .u, .u, .u, .u, .u, .u, .u, .u, .u, .u, .u, .u, .u, .u, .u, .u, .u, .u, .u, .u, .u, .u, .u, .u, .u, .u, .u, .u, .u, .u, .u, .u, .u, .u, .u, .u, .u, .u, .u, .u, .u, .u, .u, .u, .u, .u, .u, .u, .u, .u], [.box 25 [.h (.t1 (.k .str)), .h (.t1 (.k .str)), .h (.t1 (.k .str)), .h (.t1 (.k .str)), .h (.t1 (.k .str))], .box 25 [.h (.t1 (.k .str)), .h (.t1 (.k .str)), .h (.t1 (.k .str)), .h (.t1 (.k .str)), .h (.t1 (.k .str))]]⟩], [(.ret, ⟨[.u, .u, .a (.loc 0 0), .a (.h (.t1 (.k (.int .i64)))), .u, .u, .u, .u, .u, .u, .u, .u, .u, .u, .u, .u, .u, .u, .u, .u, .u, .u, .u, .u, .u, .u, .u, .u, .u, .u, .u, .u, .u, .u, .u, .u, .u, .u, .u, .u, .u, .u, .u, .u, .u, .u, .u, .u, .u, .u, .u, .u, .u, .u, .u, .u, .u, .u, .u, .u, .u, .u, .u, .u, .u, .u, .u, .u, .u, .u, .u], [.box 25 [.h (.t1 (.k .str)), .h (.t1 (.k .str)), .h (.t1 (.k .str)), .h (.t1 (.k .str)), .h (.t1 (.k .str))]]⟩), ((.ex 0), ⟨[.u, .u, .a (.loc 0 0), .u, .u, .a (.loc 1 0), .u, .u, .u, .u, .u, .u, .u, .u, .u, .u, .u, .u, .u, .u, .u, .u, .u, .u, .u, .u, .u, .u, .u, .u, .u, .u, .u, .u, .u, .u, .u, .u, .u, .u, .u, .u, .u, .u, .u, .u, .u, .u, .u, .u, .u, .u, .u, .u, .u, .u, .u, .u, .u, .u, .u, .u, .u, .u, .u, .u, .u, .u, .u, .u, .u], [.box 25 [.h (.t1 (.k .str)), .h (.t1 (.k .str)), .h (.t1 (.k .str)), .h (.t1 (.k .str)), .h (.t1 (.k .str))], .box 25 [.h (.t1 (.k .str)), .h (.t1 (.k .str)), .h (.t1 (.k .str)), .h (.t1 (.k .str)), .h (.t1 (.k .str))]]⟩)]⟩], false⟩
  | _, _ => ⟨[], [], false⟩
theorem lparse_q : (fun (a0 : List UInt8) => stN tab0_5 code lparse_n FU 24 7 [.a (.v (.str a0))] [] lparse_k) = (fun (a0 : List UInt8) => lparse a0) := by kernel_rfl
noncomputable def tab0_6 : ToldK := addTo tab0_5 7 lparse_e
theorem lparse_h : EntryOK tab0_5 code lparse_n FU 24 7 lparse_e := by
  intro args os t h
  unfold lparse_e at h
  split at h
  · rename_i os0 a0
    cases h
    exact ⟨_, _, fun p => (.tup [(.agg [(.str p.1), (.str p.2.1), (.str p.2.2.1), (.str p.2.2.2.1), (.str p.2.2.2.2.1)]), (.int .i64 p.2.2.2.2.2)]), lparse_k, ids_all rfl, fun _ _ => rfl, (congrFun lparse_q _), fun sv os p hp => by
      unfold lparse_k at hp
      split at hp
      · have hp := dTy_ok hp
        split at hp
        · cases hp; exact ⟨rfl, rfl⟩
        · cases hp
      · cases hp⟩
  · cases h
/-! cubit/locale.write -/
noncomputable def lwrite (a0 : List UInt8) (a1 : List UInt8) (a2 : List UInt8) (a3 : List UInt8) (a4 : List UInt8) : Option (List UInt8) :=
(cond (!(a1 == []))
(chk (decide ((([45] : List UInt8).length + (a1 : List UInt8).length) ≤ maxStr))
(chk (decide (((a0 : List UInt8).length + (([45] ++ a1) : List UInt8).length) ≤ maxStr))
(chk (decide (((a2 : List UInt8).length + (a3 : List UInt8).length) ≤ maxStr))
(chk (decide ((((a2 ++ a3) : List UInt8).length + (a4 : List UInt8).length) ≤ maxStr))
(cond (!(((a2 ++ a3) ++ a4) == []))
(chk (decide ((((a0 ++ ([45] ++ a1)) : List UInt8).length + ([45, 117] : List UInt8).length) ≤ maxStr))
(cond (!(a2 == []))
((lwr a2).bind fun x0 =>
(chk (decide ((([45, 114, 103, 45] : List UInt8).length + (x0 : List UInt8).length) ≤ maxStr))
(chk (decide (((([45, 114, 103, 45] ++ x0) : List UInt8).length + ([122, 122, 122, 122] : List UInt8).length) ≤ maxStr))
(chk (decide (((((a0 ++ ([45] ++ a1)) ++ [45, 117]) : List UInt8).length + ((([45, 114, 103, 45] ++ x0) ++ [122, 122, 122, 122]) : List UInt8).length) ≤ maxStr))
(cond (!(a3 == []))
(chk (decide ((([45, 109, 115, 45] : List UInt8).length + (a3 : List UInt8).length) ≤ maxStr))
(chk (decide ((((((a0 ++ ([45] ++ a1)) ++ [45, 117]) ++ (([45, 114, 103, 45] ++ x0) ++ [122, 122, 122, 122])) : List UInt8).length + (([45, 109, 115, 45] ++ a3) : List UInt8).length) ≤ maxStr))
(cond (!(a4 == []))
(chk (decide ((([45, 109, 117, 45] : List UInt8).length + (a4 : List UInt8).length) ≤ maxStr))
(chk (decide (((((((a0 ++ ([45] ++ a1)) ++ [45, 117]) ++ (([45, 114, 103, 45] ++ x0) ++ [122, 122, 122, 122])) ++ ([45, 109, 115, 45] ++ a3)) : List UInt8).length + (([45, 109, 117, 45] ++ a4) : List UInt8).length) ≤ maxStr))
(some ((((((a0 ++ ([45] ++ a1)) ++ [45, 117]) ++ (([45, 114, 103, 45] ++ x0) ++ [122, 122, 122, 122])) ++ ([45, 109, 115, 45] ++ a3)) ++ ([45, 109, 117, 45] ++ a4))))))
(some (((((a0 ++ ([45] ++ a1)) ++ [45, 117]) ++ (([45, 114, 103, 45] ++ x0) ++ [122, 122, 122, 122])) ++ ([45, 109, 115, 45] ++ a3)))))))
(cond (!(a4 == []))
(chk (decide ((([45, 109, 117, 45] : List UInt8).length + (a4 : List UInt8).length) ≤ maxStr))
(chk (decide ((((((a0 ++ ([45] ++ a1)) ++ [45, 117]) ++ (([45, 114, 103, 45] ++ x0) ++ [122, 122, 122, 122])) : List UInt8).length + (([45, 109, 117, 45] ++ a4) : List UInt8).length) ≤ maxStr))
(some (((((a0 ++ ([45] ++ a1)) ++ [45, 117]) ++ (([45, 114, 103, 45] ++ x0) ++ [122, 122, 122, 122])) ++ ([45, 109, 117, 45] ++ a4))))))
(some ((((a0 ++ ([45] ++ a1)) ++ [45, 117]) ++ (([45, 114, 103, 45] ++ x0) ++ [122, 122, 122, 122]))))))))))
(cond (!(a3 == []))
(chk (decide ((([45, 109, 115, 45] : List UInt8).length + (a3 : List UInt8).length) ≤ maxStr))
(chk (decide (((((a0 ++ ([45] ++ a1)) ++ [45, 117]) : List UInt8).length + (([45, 109, 115, 45] ++ a3) : List UInt8).length) ≤ maxStr))
(cond (!(a4 == []))
(chk (decide ((([45, 109, 117, 45] : List UInt8).length + (a4 : List UInt8).length) ≤ maxStr))
(chk (decide ((((((a0 ++ ([45] ++ a1)) ++ [45, 117]) ++ ([45, 109, 115, 45] ++ a3)) : List UInt8).length + (([45, 109, 117, 45] ++ a4) : List UInt8).length) ≤ maxStr))
(some (((((a0 ++ ([45] ++ a1)) ++ [45, 117]) ++ ([45, 109, 115, 45] ++ a3)) ++ ([45, 109, 117, 45] ++ a4))))))
(some ((((a0 ++ ([45] ++ a1)) ++ [45, 117]) ++ ([45, 109, 115, 45] ++ a3)))))))
(cond (!(a4 == []))
(chk (decide ((([45, 109, 117, 45] : List UInt8).length + (a4 : List UInt8).length) ≤ maxStr))
(chk (decide (((((a0 ++ ([45] ++ a1)) ++ [45, 117]) : List UInt8).length + (([45, 109, 117, 45] ++ a4) : List UInt8).length) ≤ maxStr))
(some ((((a0 ++ ([45] ++ a1)) ++ [45, 117]) ++ ([45, 109, 117, 45] ++ a4))))))
(some (((a0 ++ ([45] ++ a1)) ++ [45, 117])))))))
(cond (!(a2 == []))
((lwr a2).bind fun x1 =>
(chk (decide ((([45, 114, 103, 45] : List UInt8).length + (x1 : List UInt8).length) ≤ maxStr))
(chk (decide (((([45, 114, 103, 45] ++ x1) : List UInt8).length + ([122, 122, 122, 122] : List UInt8).length) ≤ maxStr))
(chk (decide ((((a0 ++ ([45] ++ a1)) : List UInt8).length + ((([45, 114, 103, 45] ++ x1) ++ [122, 122, 122, 122]) : List UInt8).length) ≤ maxStr))
(cond (!(a3 == []))
(chk (decide ((([45, 109, 115, 45] : List UInt8).length + (a3 : List UInt8).length) ≤ maxStr))
(chk (decide (((((a0 ++ ([45] ++ a1)) ++ (([45, 114, 103, 45] ++ x1) ++ [122, 122, 122, 122])) : List UInt8).length + (([45, 109, 115, 45] ++ a3) : List UInt8).length) ≤ maxStr))
(cond (!(a4 == []))
(chk (decide ((([45, 109, 117, 45] : List UInt8).length + (a4 : List UInt8).length) ≤ maxStr))
(chk (decide ((((((a0 ++ ([45] ++ a1)) ++ (([45, 114, 103, 45] ++ x1) ++ [122, 122, 122, 122])) ++ ([45, 109, 115, 45] ++ a3)) : List UInt8).length + (([45, 109, 117, 45] ++ a4) : List UInt8).length) ≤ maxStr))
(some (((((a0 ++ ([45] ++ a1)) ++ (([45, 114, 103, 45] ++ x1) ++ [122, 122, 122, 122])) ++ ([45, 109, 115, 45] ++ a3)) ++ ([45, 109, 117, 45] ++ a4))))))
(some ((((a0 ++ ([45] ++ a1)) ++ (([45, 114, 103, 45] ++ x1) ++ [122, 122, 122, 122])) ++ ([45, 109, 115, 45] ++ a3)))))))
(cond (!(a4 == []))
(chk (decide ((([45, 109, 117, 45] : List UInt8).length + (a4 : List UInt8).length) ≤ maxStr))
(chk (decide (((((a0 ++ ([45] ++ a1)) ++ (([45, 114, 103, 45] ++ x1) ++ [122, 122, 122, 122])) : List UInt8).length + (([45, 109, 117, 45] ++ a4) : List UInt8).length) ≤ maxStr))
(some ((((a0 ++ ([45] ++ a1)) ++ (([45, 114, 103, 45] ++ x1) ++ [122, 122, 122, 122])) ++ ([45, 109, 117, 45] ++ a4))))))
(some (((a0 ++ ([45] ++ a1)) ++ (([45, 114, 103, 45] ++ x1) ++ [122, 122, 122, 122]))))))))))
(cond (!(a3 == []))
(chk (decide ((([45, 109, 115, 45] : List UInt8).length + (a3 : List UInt8).length) ≤ maxStr))
(chk (decide ((((a0 ++ ([45] ++ a1)) : List UInt8).length + (([45, 109, 115, 45] ++ a3) : List UInt8).length) ≤ maxStr))
(cond (!(a4 == []))
(chk (decide ((([45, 109, 117, 45] : List UInt8).length + (a4 : List UInt8).length) ≤ maxStr))
(chk (decide (((((a0 ++ ([45] ++ a1)) ++ ([45, 109, 115, 45] ++ a3)) : List UInt8).length + (([45, 109, 117, 45] ++ a4) : List UInt8).length) ≤ maxStr))
(some ((((a0 ++ ([45] ++ a1)) ++ ([45, 109, 115, 45] ++ a3)) ++ ([45, 109, 117, 45] ++ a4))))))
(some (((a0 ++ ([45] ++ a1)) ++ ([45, 109, 115, 45] ++ a3)))))))
(cond (!(a4 == []))
(chk (decide ((([45, 109, 117, 45] : List UInt8).length + (a4 : List UInt8).length) ≤ maxStr))
(chk (decide ((((a0 ++ ([45] ++ a1)) : List UInt8).length + (([45, 109, 117, 45] ++ a4) : List UInt8).length) ≤ maxStr))
(some (((a0 ++ ([45] ++ a1)) ++ ([45, 109, 117, 45] ++ a4))))))
(some ((a0 ++ ([45] ++ a1))))))))))))
(chk (decide (((a2 : List UInt8).length + (a3 : List UInt8).length) ≤ maxStr))
(chk (decide ((((a2 ++ a3) : List UInt8).length + (a4 : List UInt8).length) ≤ maxStr))
(cond (!(((a2 ++ a3) ++ a4) == []))
(chk (decide (((a0 : List UInt8).length + ([45, 117] : List UInt8).length) ≤ maxStr))
(cond (!(a2 == []))
((lwr a2).bind fun x2 =>
(chk (decide ((([45, 114, 103, 45] : List UInt8).length + (x2 : List UInt8).length) ≤ maxStr))
(chk (decide (((([45, 114, 103, 45] ++ x2) : List UInt8).length + ([122, 122, 122, 122] : List UInt8).length) ≤ maxStr))
(chk (decide ((((a0 ++ [45, 117]) : List UInt8).length + ((([45, 114, 103, 45] ++ x2) ++ [122, 122, 122, 122]) : List UInt8).length) ≤ maxStr))
(cond (!(a3 == []))
(chk (decide ((([45, 109, 115, 45] : List UInt8).length + (a3 : List UInt8).length) ≤ maxStr))
(chk (decide (((((a0 ++ [45, 117]) ++ (([45, 114, 103, 45] ++ x2) ++ [122, 122, 122, 122])) : List UInt8).length + (([45, 109, 115, 45] ++ a3) : List UInt8).length) ≤ maxStr))
(cond (!(a4 == []))
(chk (decide ((([45, 109, 117, 45] : List UInt8).length + (a4 : List UInt8).length) ≤ maxStr))
(chk (decide ((((((a0 ++ [45, 117]) ++ (([45, 114, 103, 45] ++ x2) ++ [122, 122, 122, 122])) ++ ([45, 109, 115, 45] ++ a3)) : List UInt8).length + (([45, 109, 117, 45] ++ a4) : List UInt8).length) ≤ maxStr))
(some (((((a0 ++ [45, 117]) ++ (([45, 114, 103, 45] ++ x2) ++ [122, 122, 122, 122])) ++ ([45, 109, 115, 45] ++ a3)) ++ ([45, 109, 117, 45] ++ a4))))))
(some ((((a0 ++ [45, 117]) ++ (([45, 114, 103, 45] ++ x2) ++ [122, 122, 122, 122])) ++ ([45, 109, 115, 45] ++ a3)))))))
(cond (!(a4 == []))
(chk (decide ((([45, 109, 117, 45] : List UInt8).length + (a4 : List UInt8).length) ≤ maxStr))
(chk (decide (((((a0 ++ [45, 117]) ++ (([45, 114, 103, 45] ++ x2) ++ [122, 122, 122, 122])) : List UInt8).length + (([45, 109, 117, 45] ++ a4) : List UInt8).length) ≤ maxStr))
(some ((((a0 ++ [45, 117]) ++ (([45, 114, 103, 45] ++ x2) ++ [122, 122, 122, 122])) ++ ([45, 109, 117, 45] ++ a4))))))
(some (((a0 ++ [45, 117]) ++ (([45, 114, 103, 45] ++ x2) ++ [122, 122, 122, 122]))))))))))
(cond (!(a3 == []))
(chk (decide ((([45, 109, 115, 45] : List UInt8).length + (a3 : List UInt8).length) ≤ maxStr))
(chk (decide ((((a0 ++ [45, 117]) : List UInt8).length + (([45, 109, 115, 45] ++ a3) : List UInt8).length) ≤ maxStr))
(cond (!(a4 == []))
(chk (decide ((([45, 109, 117, 45] : List UInt8).length + (a4 : List UInt8).length) ≤ maxStr))
(chk (decide (((((a0 ++ [45, 117]) ++ ([45, 109, 115, 45] ++ a3)) : List UInt8).length + (([45, 109, 117, 45] ++ a4) : List UInt8).length) ≤ maxStr))
(some ((((a0 ++ [45, 117]) ++ ([45, 109, 115, 45] ++ a3)) ++ ([45, 109, 117, 45] ++ a4))))))
(some (((a0 ++ [45, 117]) ++ ([45, 109, 115, 45] ++ a3)))))))
(cond (!(a4 == []))
(chk (decide ((([45, 109, 117, 45] : List UInt8).length + (a4 : List UInt8).length) ≤ maxStr))
(chk (decide ((((a0 ++ [45, 117]) : List UInt8).length + (([45, 109, 117, 45] ++ a4) : List UInt8).length) ≤ maxStr))
(some (((a0 ++ [45, 117]) ++ ([45, 109, 117, 45] ++ a4))))))
(some ((a0 ++ [45, 117])))))))
(cond (!(a2 == []))
((lwr a2).bind fun x3 =>
(chk (decide ((([45, 114, 103, 45] : List UInt8).length + (x3 : List UInt8).length) ≤ maxStr))
(chk (decide (((([45, 114, 103, 45] ++ x3) : List UInt8).length + ([122, 122, 122, 122] : List UInt8).length) ≤ maxStr))
(chk (decide (((a0 : List UInt8).length + ((([45, 114, 103, 45] ++ x3) ++ [122, 122, 122, 122]) : List UInt8).length) ≤ maxStr))
(cond (!(a3 == []))
(chk (decide ((([45, 109, 115, 45] : List UInt8).length + (a3 : List UInt8).length) ≤ maxStr))
(chk (decide ((((a0 ++ (([45, 114, 103, 45] ++ x3) ++ [122, 122, 122, 122])) : List UInt8).length + (([45, 109, 115, 45] ++ a3) : List UInt8).length) ≤ maxStr))
(cond (!(a4 == []))
(chk (decide ((([45, 109, 117, 45] : List UInt8).length + (a4 : List UInt8).length) ≤ maxStr))
(chk (decide (((((a0 ++ (([45, 114, 103, 45] ++ x3) ++ [122, 122, 122, 122])) ++ ([45, 109, 115, 45] ++ a3)) : List UInt8).length + (([45, 109, 117, 45] ++ a4) : List UInt8).length) ≤ maxStr))
(some ((((a0 ++ (([45, 114, 103, 45] ++ x3) ++ [122, 122, 122, 122])) ++ ([45, 109, 115, 45] ++ a3)) ++ ([45, 109, 117, 45] ++ a4))))))
(some (((a0 ++ (([45, 114, 103, 45] ++ x3) ++ [122, 122, 122, 122])) ++ ([45, 109, 115, 45] ++ a3)))))))
(cond (!(a4 == []))
(chk (decide ((([45, 109, 117, 45] : List UInt8).length + (a4 : List UInt8).length) ≤ maxStr))
(chk (decide ((((a0 ++ (([45, 114, 103, 45] ++ x3) ++ [122, 122, 122, 122])) : List UInt8).length + (([45, 109, 117, 45] ++ a4) : List UInt8).length) ≤ maxStr))
(some (((a0 ++ (([45, 114, 103, 45] ++ x3) ++ [122, 122, 122, 122])) ++ ([45, 109, 117, 45] ++ a4))))))
(some ((a0 ++ (([45, 114, 103, 45] ++ x3) ++ [122, 122, 122, 122]))))))))))
(cond (!(a3 == []))
(chk (decide ((([45, 109, 115, 45] : List UInt8).length + (a3 : List UInt8).length) ≤ maxStr))
(chk (decide (((a0 : List UInt8).length + (([45, 109, 115, 45] ++ a3) : List UInt8).length) ≤ maxStr))
(cond (!(a4 == []))
(chk (decide ((([45, 109, 117, 45] : List UInt8).length + (a4 : List UInt8).length) ≤ maxStr))
(chk (decide ((((a0 ++ ([45, 109, 115, 45] ++ a3)) : List UInt8).length + (([45, 109, 117, 45] ++ a4) : List UInt8).length) ≤ maxStr))
(some (((a0 ++ ([45, 109, 115, 45] ++ a3)) ++ ([45, 109, 117, 45] ++ a4))))))
(some ((a0 ++ ([45, 109, 115, 45] ++ a3)))))))
(cond (!(a4 == []))
(chk (decide ((([45, 109, 117, 45] : List UInt8).length + (a4 : List UInt8).length) ≤ maxStr))
(chk (decide (((a0 : List UInt8).length + (([45, 109, 117, 45] ++ a4) : List UInt8).length) ≤ maxStr))
(some ((a0 ++ ([45, 109, 117, 45] ++ a4))))))
(some (a0)))))))))
noncomputable def lwrite_e : List SV → Objs → Option ((β : Type) → (SV → Objs → Option β) → Option β)
  | [.a (.v (.agg [(.str a0), (.str a1), (.str a2), (.str a3), (.str a4)]))], os => some fun _ K => (lwrite a0 a1 a2 a3 a4).bind fun p => K (.a (.v (.str p))) os
  | _, _ => none
noncomputable def lwrite_k (sv : SV) (os : Objs) : Option (List UInt8) := match sv, os with
  | .a (.v v), [] => dTy (.t1 (.k .str)) v fun v => (match v with | (.str r0) => some (r0) | _ => none)
  | _, _ => none
noncomputable def lwrite_n : FuncId → Nat → Ann := fun f n => match f, n with
  | _, _ => ⟨[], [], false⟩
theorem lwrite_q : (fun (a0 : List UInt8) (a1 : List UInt8) (a2 : List UInt8) (a3 : List UInt8) (a4 : List UInt8) => stN tab0_6 code lwrite_n FU 24 15 [.a (.v (.agg [(.str a0), (.str a1), (.str a2), (.str a3), (.str a4)]))] [] lwrite_k) = (fun (a0 : List UInt8) (a1 : List UInt8) (a2 : List UInt8) (a3 : List UInt8) (a4 : List UInt8) => lwrite a0 a1 a2 a3 a4) := by kernel_rfl
noncomputable def tab0_7 : ToldK := addTo tab0_6 15 lwrite_e
theorem lwrite_h : EntryOK tab0_6 code lwrite_n FU 24 15 lwrite_e := by
  intro args os t h
  unfold lwrite_e at h
  split at h
  · rename_i os0 a0 a1 a2 a3 a4
    cases h
    exact ⟨_, _, fun p => (.str p), lwrite_k, ids_all rfl, fun _ _ => rfl, (congrFun (congrFun (congrFun (congrFun (congrFun lwrite_q _) _) _) _) _), fun sv os p hp => by
      unfold lwrite_k at hp
      split at hp
      · have hp := dTy_ok hp
        split at hp
        · cases hp; exact ⟨rfl, rfl⟩
        · cases hp
      · cases hp⟩
  · cases h
/-! cubit/locale.Good -/
noncomputable def lgood (a0 : List UInt8) (a1 : List UInt8) (a2 : List UInt8) (a3 : List UInt8) (a4 : List UInt8) : Option (Bool) :=
((lwrite a0 a1 a2 a3 a4).bind fun x0 =>
((lparse x0).bind fun x1 =>
(cond (x1.2.2.2.2.2 == 0)
(some (((x1.1 == a0) && ((x1.2.1 == a1) && ((x1.2.2.1 == a2) && ((x1.2.2.2.1 == a3) && (x1.2.2.2.2.1 == a4)))))))
(some (false)))))
noncomputable def lgood_e : List SV → Objs → Option ((β : Type) → (SV → Objs → Option β) → Option β)
  | [.a (.v (.agg [(.str a0), (.str a1), (.str a2), (.str a3), (.str a4)]))], os => some fun _ K => (lgood a0 a1 a2 a3 a4).bind fun p => K (.a (.v (.bool p))) os
  | _, _ => none
noncomputable def lgood_k (sv : SV) (os : Objs) : Option (Bool) := match sv, os with
  | .a (.v v), [] => dTy (.t1 (.k .bool)) v fun v => (match v with | (.bool r0) => some (r0) | _ => none)
  | _, _ => none
noncomputable def lgood_n : FuncId → Nat → Ann := fun f n => match f, n with
  | _, _ => ⟨[], [], false⟩
theorem lgood_q : (fun (a0 : List UInt8) (a1 : List UInt8) (a2 : List UInt8) (a3 : List UInt8) (a4 : List UInt8) => stN tab0_7 code lgood_n FU 24 10 [.a (.v (.agg [(.str a0), (.str a1), (.str a2), (.str a3), (.str a4)]))] [] lgood_k) = (fun (a0 : List UInt8) (a1 : List UInt8) (a2 : List UInt8) (a3 : List UInt8) (a4 : List UInt8) => lgood a0 a1 a2 a3 a4) := by kernel_rfl
noncomputable def tab0_8 : ToldK := addTo tab0_7 10 lgood_e
theorem lgood_h : EntryOK tab0_7 code lgood_n FU 24 10 lgood_e := by
  intro args os t h
  unfold lgood_e at h
  split at h
  · rename_i os0 a0 a1 a2 a3 a4
    cases h
    exact ⟨_, _, fun p => (.bool p), lgood_k, ids_all rfl, fun _ _ => rfl, (congrFun (congrFun (congrFun (congrFun (congrFun lgood_q _) _) _) _) _), fun sv os p hp => by
      unfold lgood_k at hp
      split at hp
      · have hp := dTy_ok hp
        split at hp
        · cases hp; exact ⟨rfl, rfl⟩
        · cases hp
      · cases hp⟩
  · cases h
/-! cubit/locale.Show -/
noncomputable def lshow (a0 : List UInt8) (a1 : List UInt8) (a2 : List UInt8) (a3 : List UInt8) (a4 : List UInt8) : Option (List UInt8) :=
((lgood a0 a1 a2 a3 a4).bind fun x0 =>
(cond (!x0)
(some ([]))
((lwrite a0 a1 a2 a3 a4).bind fun x1 =>
(some (x1)))))
noncomputable def lshow_e : List SV → Objs → Option ((β : Type) → (SV → Objs → Option β) → Option β)
  | [.a (.v (.agg [(.str a0), (.str a1), (.str a2), (.str a3), (.str a4)]))], os => some fun _ K => (lshow a0 a1 a2 a3 a4).bind fun p => K (.a (.v (.str p))) os
  | _, _ => none
noncomputable def lshow_k (sv : SV) (os : Objs) : Option (List UInt8) := match sv, os with
  | .a (.v v), [] => dTy (.t1 (.k .str)) v fun v => (match v with | (.str r0) => some (r0) | _ => none)
  | _, _ => none
noncomputable def lshow_n : FuncId → Nat → Ann := fun f n => match f, n with
  | _, _ => ⟨[], [], false⟩
theorem lshow_q : (fun (a0 : List UInt8) (a1 : List UInt8) (a2 : List UInt8) (a3 : List UInt8) (a4 : List UInt8) => stN tab0_8 code lshow_n FU 24 8 [.a (.v (.agg [(.str a0), (.str a1), (.str a2), (.str a3), (.str a4)]))] [] lshow_k) = (fun (a0 : List UInt8) (a1 : List UInt8) (a2 : List UInt8) (a3 : List UInt8) (a4 : List UInt8) => lshow a0 a1 a2 a3 a4) := by kernel_rfl
noncomputable def tab0_9 : ToldK := addTo tab0_8 8 lshow_e
theorem lshow_h : EntryOK tab0_8 code lshow_n FU 24 8 lshow_e := by
  intro args os t h
  unfold lshow_e at h
  split at h
  · rename_i os0 a0 a1 a2 a3 a4
    cases h
    exact ⟨_, _, fun p => (.str p), lshow_k, ids_all rfl, fun _ _ => rfl, (congrFun (congrFun (congrFun (congrFun (congrFun lshow_q _) _) _) _) _), fun sv os p hp => by
      unfold lshow_k at hp
      split at hp
      · have hp := dTy_ok hp
        split at hp
        · cases hp; exact ⟨rfl, rfl⟩
        · cases hp
      · cases hp⟩
  · cases h
/-! cubit/locale.Place -/
noncomputable def lplace (a0 : List UInt8) (a1 : List UInt8) (a2 : List UInt8) (a3 : List UInt8) (a4 : List UInt8) : Option (List UInt8) :=
(cond (a3 == [109, 101, 116, 114, 105, 99])
(some ([48, 48, 49]))
(cond (a3 == [117, 115, 115, 121, 115, 116, 101, 109])
(some ([85, 83]))
(cond (a3 == [117, 107, 115, 121, 115, 116, 101, 109])
(some ([71, 66]))
(cond (!(a2 == []))
(some (a2))
(some (a1))))))
noncomputable def lplace_e : List SV → Objs → Option ((β : Type) → (SV → Objs → Option β) → Option β)
  | [.a (.v (.agg [(.str a0), (.str a1), (.str a2), (.str a3), (.str a4)]))], os => some fun _ K => (lplace a0 a1 a2 a3 a4).bind fun p => K (.a (.v (.str p))) os
  | _, _ => none
noncomputable def lplace_k (sv : SV) (os : Objs) : Option (List UInt8) := match sv, os with
  | .a (.v v), [] => dTy (.t1 (.k .str)) v fun v => (match v with | (.str r0) => some (r0) | _ => none)
  | _, _ => none
noncomputable def lplace_n : FuncId → Nat → Ann := fun f n => match f, n with
  | _, _ => ⟨[], [], false⟩
theorem lplace_q : (fun (a0 : List UInt8) (a1 : List UInt8) (a2 : List UInt8) (a3 : List UInt8) (a4 : List UInt8) => stN tab0_9 code lplace_n FU 24 9 [.a (.v (.agg [(.str a0), (.str a1), (.str a2), (.str a3), (.str a4)]))] [] lplace_k) = (fun (a0 : List UInt8) (a1 : List UInt8) (a2 : List UInt8) (a3 : List UInt8) (a4 : List UInt8) => lplace a0 a1 a2 a3 a4) := by kernel_rfl
noncomputable def tab0_10 : ToldK := addTo tab0_9 9 lplace_e
theorem lplace_h : EntryOK tab0_9 code lplace_n FU 24 9 lplace_e := by
  intro args os t h
  unfold lplace_e at h
  split at h
  · rename_i os0 a0 a1 a2 a3 a4
    cases h
    exact ⟨_, _, fun p => (.str p), lplace_k, ids_all rfl, fun _ _ => rfl, (congrFun (congrFun (congrFun (congrFun (congrFun lplace_q _) _) _) _) _), fun sv os p hp => by
      unfold lplace_k at hp
      split at hp
      · have hp := dTy_ok hp
        split at hp
        · cases hp; exact ⟨rfl, rfl⟩
        · cases hp
      · cases hp⟩
  · cases h
/-! cubit/cubitlaw14.awake -/
noncomputable def awake14 : Option (Bool) := some true
noncomputable def awake14_e : List SV → Objs → Option ((β : Type) → (SV → Objs → Option β) → Option β)
  | [], os => some fun _ K => awake14.bind fun p => K (.a (.v (.bool p))) os
  | _, _ => none
noncomputable def awake14_k (sv : SV) (os : Objs) : Option (Bool) := match sv, os with
  | .a (.v v), [] => dTy (.t1 (.k .bool)) v fun v => (match v with | (.bool r0) => some (r0) | _ => none)
  | _, _ => none
theorem awake14_q : stN tab0_10 code (fun _ _ => ⟨[], [], false⟩) FU 24 6 [] [] awake14_k = some true := by kernel_rfl
noncomputable def tab0_11 : ToldK := addTo tab0_10 6 awake14_e
theorem awake14_h : EntryOK tab0_10 code (fun _ _ => ⟨[], [], false⟩) FU 24 6 awake14_e := by
  intro args os t h
  unfold awake14_e at h
  split at h
  · cases h
    exact ⟨_, _, fun p => (.bool p), awake14_k, ids_all rfl, fun _ _ => rfl, awake14_q, fun sv os p hp => by
      unfold awake14_k at hp
      split at hp
      · have hp := dTy_ok hp
        split at hp
        · cases hp; exact ⟨rfl, rfl⟩
        · cases hp
      · cases hp⟩
  · cases h
/-! cubit/cubitlaw14.LocaleBack -/
noncomputable def lback (a0 : List UInt8) : Option (Bool) :=
((awake14 ).bind fun x0 =>
(cond (!x0)
(some (false))
(cond (decide ((((a0 : List UInt8).length : Nat) : Int) > 200))
(some (true))
((lparse a0).bind fun x1 =>
(cond (x1.2.2.2.2.2 != 0)
(some (true))
((lshow x1.1 x1.2.1 x1.2.2.1 x1.2.2.2.1 x1.2.2.2.2.1).bind fun x2 =>
((lparse x2).bind fun x3 =>
(cond (x3.2.2.2.2.2 == 0)
(cond ((x3.1 == x1.1) && ((x3.2.1 == x1.2.1) && ((x3.2.2.1 == x1.2.2.1) && ((x3.2.2.2.1 == x1.2.2.2.1) && (x3.2.2.2.2.1 == x1.2.2.2.2.1)))))
((lgood x1.1 x1.2.1 x1.2.2.1 x1.2.2.2.1 x1.2.2.2.2.1).bind fun x4 =>
(cond x4
((lshow x1.1 x1.2.1 x1.2.2.1 x1.2.2.2.1 x1.2.2.2.2.1).bind fun x5 =>
(some (((((x5 : List UInt8).length : Nat) : Int) == (((a0 : List UInt8).length : Nat) : Int)))))
(some (false))))
(some (false)))
(some (false))))))))))
noncomputable def lback_e : List SV → Objs → Option ((β : Type) → (SV → Objs → Option β) → Option β)
  | [.a (.v (.str a0))], os => some fun _ K => (lback a0).bind fun p => K (.a (.v (.bool p))) os
  | _, _ => none
noncomputable def lback_k (sv : SV) (os : Objs) : Option (Bool) := match sv, os with
  | .a (.v v), [] => dTy (.t1 (.k .bool)) v fun v => (match v with | (.bool r0) => some (r0) | _ => none)
  | _, _ => none
noncomputable def lback_n : FuncId → Nat → Ann := fun f n => match f, n with
  | _, _ => ⟨[], [], false⟩
theorem lback_q : (fun (a0 : List UInt8) => stN tab0_11 code lback_n FU 24 4 [.a (.v (.str a0))] [] lback_k) = (fun (a0 : List UInt8) => lback a0) := by kernel_rfl
noncomputable def tab0_12 : ToldK := addTo tab0_11 4 lback_e
theorem lback_h : EntryOK tab0_11 code lback_n FU 24 4 lback_e := by
  intro args os t h
  unfold lback_e at h
  split at h
  · rename_i os0 a0
    cases h
    exact ⟨_, _, fun p => (.bool p), lback_k, ids_all rfl, fun _ _ => rfl, (congrFun lback_q _), fun sv os p hp => by
      unfold lback_k at hp
      split at hp
      · have hp := dTy_ok hp
        split at hp
        · cases hp; exact ⟨rfl, rfl⟩
        · cases hp
      · cases hp⟩
  · cases h
end Go.Proofs.YtiniebodbanmnaaDoor.lc
