/- More told functions of the library, whatever the program. -/
import Derived.Test.YtmlhdhndjgdoaaaGreatDoorCuTl
import Derived.Lib.Replace
import Derived.Lib.IndexMore
import Derived.Lib.Join
import Derived.Lib.Repeat
import Derived.Lib.ItoaNum
import Derived.Lib.AtoiAll
import Derived.Lib.AppendIntMem
import Derived.Lib.AtoiErrMem
namespace Go.Ev
open Go Go.RowKit

/-- An answer that is no pointer. -/
theorem told_val {P : Program} {S : Fz} {w : World} {r : V} {v : Value} {f : FuncId} {args : Array Value} (hr : ∀ S, Rep S r v) (h : Calls P f args w fun e w' => e = .returned v ∧ Below w.heap.size w w') : Calls P f args w (Answers S w r) :=
  h.mono fun _ _ ⟨h1, h2⟩ => ⟨_, h1, h2, w.heap.size, [], Nat.le_refl _, fun j u h => by simp at h, fun S' _ _ => hr S'⟩
theorem told_same {P : Program} {S : Fz} {w : World} {r : V} {v : Value} {f : FuncId} {args : Array Value} (hr : ∀ S, Rep S r v) (h : Calls P f args w fun e w' => e = .returned v ∧ w' = w) : Calls P f args w (Answers S w r) :=
  told_val hr (h.mono fun _ _ ⟨h1, h2⟩ => ⟨h1, by rw [h2]; exact Below.refl _ _⟩)
theorem countB_room (s o : List UInt8) (n : List UInt8) (ho : o.length ≠ 0) (hs : s.length ≤ 1000000) (hn : n.length ≤ 1000) : (⟨s.toArray⟩ : ByteArray).size + Lib.countB ⟨s.toArray⟩ ⟨o.toArray⟩ * (⟨n.toArray⟩ : ByteArray).size ≤ 140737488355328 := by
  have e1 : (⟨s.toArray⟩ : ByteArray).size = s.length := rfl
  have e2 : (⟨o.toArray⟩ : ByteArray).size = o.length := rfl
  have e3 : (⟨n.toArray⟩ : ByteArray).size = n.length := rfl
  have h1 := Lib.countB_le ⟨o.toArray⟩ (by rw [e2]; omega) s.length ⟨s.toArray⟩ (by rw [e1]; omega)
  rw [e1] at h1 ⊢
  rw [e3]
  have : Lib.countB ⟨s.toArray⟩ ⟨o.toArray⟩ * n.length ≤ 1000000 * 1000 := Nat.mul_le_mul (by omega) hn
  omega

/-! ### strings.Replace, ReplaceAll -/
noncomputable def repl (s o nw : List UInt8) (n : Int) : Option (List UInt8) := if o.length = 0 ∨ 1000000 < s.length ∨ 1000 < nw.length then none else some (Lib.replace s o nw n)
noncomputable def spRepl : List V → Option V
  | [.str s, .str o, .str nw, .int .i64 n] => (repl s o nw n).map V.str
  | _ => none
noncomputable def repl_e : List SV → Objs → Option ((β : Type) → (SV → Objs → Option β) → Option β)
  | [.a (.v (.str s)), .a (.v (.str o)), .a (.v (.str nw)), .a (.v (.int .i64 n))], os => some fun _ K => (repl s o nw n).bind fun p => K (.a (.v (.str p))) os
  | _, _ => none
theorem repl_l : LibEntry spRepl repl_e := by
  intro args os t h
  unfold repl_e at h
  split at h
  · rename_i os0 s o nw n
    cases h
    exact ⟨_, [.str s, .str o, .str nw, .int .i64 n], repl s o nw n, fun p => .str p, rfl, fun _ _ => rfl, fun q hq => by simp only [spRepl, hq, Option.map_some]⟩
  · cases h
theorem repl_ok {P : Program} {W : World} {f : FuncId} (hb : HasBody P f) {bm : Nat} (h8 : bm < 64) (hM : ∃ m, W.cell? ⟨bm, 0, none⟩ = some (.int .i64 m))
    (hc : ∀ (s o nw : ByteArray) (n m : Int) (w : World), s.size < 4294967281 → w.cell? ⟨bm, 0, none⟩ = some (.int .i64 m) → 1 ≤ o.size → s.size + Lib.countB s o * nw.size ≤ 140737488355328 → Calls P f #[.string s, .string o, .string nw, .int .i64 n] w fun e w' =>
      e = .returned (.string ⟨(Lib.replace s.data.toList o.data.toList nw.data.toList n).toArray⟩) ∧ Below w.heap.size w w') : CallOK P (Gw W) fun g args os => if g = f then pureCall spRepl args os else none := by
  refine told_pure hb fun vs r h S w vals hG hok hp => ?_
  unfold spRepl at h
  split at h
  · rename_i s o nw n
    unfold repl at h
    split at h
    · cases h
    · rename_i hg
      cases h
      obtain ⟨v0, vr, rfl, h0, hr⟩ := hp.cons_left
      obtain ⟨v1, vr1, rfl, h1, hr1⟩ := hr.cons_left
      obtain ⟨v2, vr2, rfl, h2, hr2⟩ := hr1.cons_left
      obtain ⟨v3, vr3, rfl, h3, hr3⟩ := hr2.cons_left
      have e0 := rep_str h0
      have e1 := rep_str h1
      have e2 := rep_str h2
      have e3 : v3 = .int .i64 n := by cases h3; rfl
      have e4 := hr3.nil_left
      subst e0 e1 e2 e3 e4
      obtain ⟨m, hm⟩ := hM
      have hs : (⟨s.toArray⟩ : ByteArray).size = s.length := rfl
      have ho : (⟨o.toArray⟩ : ByteArray).size = o.length := rfl
      exact told_str (hc ⟨s.toArray⟩ ⟨o.toArray⟩ ⟨nw.toArray⟩ n m w (by rw [hs]; omega) (cell_of hG hok h8 hm) (by rw [ho]; omega) (countB_room s o nw (by omega) (by omega) (by omega)))
  · cases h

noncomputable def replAll (s o nw : List UInt8) : Option (List UInt8) := if o.length = 0 ∨ 1000000 < s.length ∨ 1000 < nw.length then none else some (Lib.replaceAll s o nw)
noncomputable def spReplAll : List V → Option V
  | [.str s, .str o, .str nw] => (replAll s o nw).map V.str
  | _ => none
noncomputable def replAll_e : List SV → Objs → Option ((β : Type) → (SV → Objs → Option β) → Option β)
  | [.a (.v (.str s)), .a (.v (.str o)), .a (.v (.str nw))], os => some fun _ K => (replAll s o nw).bind fun p => K (.a (.v (.str p))) os
  | _, _ => none
theorem replAll_l : LibEntry spReplAll replAll_e := by
  intro args os t h
  unfold replAll_e at h
  split at h
  · rename_i os0 s o nw
    cases h
    exact ⟨_, [.str s, .str o, .str nw], replAll s o nw, fun p => .str p, rfl, fun _ _ => rfl, fun q hq => by simp only [spReplAll, hq, Option.map_some]⟩
  · cases h
theorem replAll_ok {P : Program} {W : World} {f : FuncId} (hb : HasBody P f) {bm : Nat} (h8 : bm < 64) (hM : ∃ m, W.cell? ⟨bm, 0, none⟩ = some (.int .i64 m))
    (hc : ∀ (s o nw : ByteArray) (m : Int) (w : World), s.size < 4294967281 → w.cell? ⟨bm, 0, none⟩ = some (.int .i64 m) → 1 ≤ o.size → s.size + Lib.countB s o * nw.size ≤ 140737488355328 → Calls P f #[.string s, .string o, .string nw] w fun e w' =>
      e = .returned (.string ⟨(Lib.replaceAll s.data.toList o.data.toList nw.data.toList).toArray⟩) ∧ Below w.heap.size w w') : CallOK P (Gw W) fun g args os => if g = f then pureCall spReplAll args os else none := by
  refine told_pure hb fun vs r h S w vals hG hok hp => ?_
  unfold spReplAll at h
  split at h
  · rename_i s o nw
    unfold replAll at h
    split at h
    · cases h
    · rename_i hg
      cases h
      obtain ⟨v0, vr, rfl, h0, hr⟩ := hp.cons_left
      obtain ⟨v1, vr1, rfl, h1, hr1⟩ := hr.cons_left
      obtain ⟨v2, vr2, rfl, h2, hr2⟩ := hr1.cons_left
      have e0 := rep_str h0
      have e1 := rep_str h1
      have e2 := rep_str h2
      have e4 := hr2.nil_left
      subst e0 e1 e2 e4
      obtain ⟨m, hm⟩ := hM
      have hs : (⟨s.toArray⟩ : ByteArray).size = s.length := rfl
      have ho : (⟨o.toArray⟩ : ByteArray).size = o.length := rfl
      exact told_str (hc ⟨s.toArray⟩ ⟨o.toArray⟩ ⟨nw.toArray⟩ m w (by rw [hs]; omega) (cell_of hG hok h8 hm) (by rw [ho]; omega) (countB_room s o nw (by omega) (by omega) (by omega)))
  · cases h

/-! ### strings.Contains, Count -/
noncomputable def sContains (s o : List UInt8) : Option Bool := if 1000000 < s.length then none else some (Lib.contains s o)
noncomputable def spContains : List V → Option V
  | [.str s, .str o] => (sContains s o).map V.bool
  | _ => none
noncomputable def sContains_e : List SV → Objs → Option ((β : Type) → (SV → Objs → Option β) → Option β)
  | [.a (.v (.str s)), .a (.v (.str o))], os => some fun _ K => (sContains s o).bind fun p => K (.a (.v (.bool p))) os
  | _, _ => none
theorem sContains_l : LibEntry spContains sContains_e := by
  intro args os t h
  unfold sContains_e at h
  split at h
  · rename_i os0 s o
    cases h
    exact ⟨_, [.str s, .str o], sContains s o, fun p => .bool p, rfl, fun _ _ => rfl, fun q hq => by simp only [spContains, hq, Option.map_some]⟩
  · cases h
theorem sContains_ok {P : Program} {W : World} {f : FuncId} (hb : HasBody P f) {bm : Nat} (h8 : bm < 64) (hM : ∃ m, W.cell? ⟨bm, 0, none⟩ = some (.int .i64 m))
    (hc : ∀ (s o : ByteArray) (m : Int) (w : World), s.size < 4294967281 → w.cell? ⟨bm, 0, none⟩ = some (.int .i64 m) → Calls P f #[.string s, .string o] w fun e w' => e = .returned (.bool (Lib.contains s.data.toList o.data.toList)) ∧ w' = w) : CallOK P (Gw W) fun g args os => if g = f then pureCall spContains args os else none := by
  refine told_pure hb fun vs r h S w vals hG hok hp => ?_
  unfold spContains at h
  split at h
  · rename_i s o
    unfold sContains at h
    split at h
    · cases h
    · rename_i hg
      cases h
      obtain ⟨v0, vr, rfl, h0, hr⟩ := hp.cons_left
      obtain ⟨v1, vr1, rfl, h1, hr1⟩ := hr.cons_left
      have e0 := rep_str h0
      have e1 := rep_str h1
      have e4 := hr1.nil_left
      subst e0 e1 e4
      obtain ⟨m, hm⟩ := hM
      have hs : (⟨s.toArray⟩ : ByteArray).size = s.length := rfl
      exact told_same (fun _ => .bool _) (hc ⟨s.toArray⟩ ⟨o.toArray⟩ m w (by rw [hs]; omega) (cell_of hG hok h8 hm))
  · cases h

noncomputable def sCount (s o : List UInt8) : Option Int := if o.length = 0 ∨ 1000000 < s.length then none else some (Lib.count s o : Nat)
noncomputable def spCount : List V → Option V
  | [.str s, .str o] => (sCount s o).map (V.int .i64)
  | _ => none
noncomputable def sCount_e : List SV → Objs → Option ((β : Type) → (SV → Objs → Option β) → Option β)
  | [.a (.v (.str s)), .a (.v (.str o))], os => some fun _ K => (sCount s o).bind fun p => K (.a (.v (.int .i64 p))) os
  | _, _ => none
theorem sCount_l : LibEntry spCount sCount_e := by
  intro args os t h
  unfold sCount_e at h
  split at h
  · rename_i os0 s o
    cases h
    exact ⟨_, [.str s, .str o], sCount s o, fun p => .int .i64 p, rfl, fun _ _ => rfl, fun q hq => by simp only [spCount, hq, Option.map_some]⟩
  · cases h
theorem sCount_ok {P : Program} {W : World} {f : FuncId} (hb : HasBody P f) {bm : Nat} (h8 : bm < 64) (hM : ∃ m, W.cell? ⟨bm, 0, none⟩ = some (.int .i64 m))
    (hc : ∀ (s o : ByteArray) (m : Int) (w : World), s.size < 4294967281 → w.cell? ⟨bm, 0, none⟩ = some (.int .i64 m) → 1 ≤ o.size → Calls P f #[.string s, .string o] w fun e w' => e = .returned (.int .i64 (Lib.countB s o)) ∧ w' = w) : CallOK P (Gw W) fun g args os => if g = f then pureCall spCount args os else none := by
  refine told_pure hb fun vs r h S w vals hG hok hp => ?_
  unfold spCount at h
  split at h
  · rename_i s o
    unfold sCount at h
    split at h
    · cases h
    · rename_i hg
      cases h
      obtain ⟨v0, vr, rfl, h0, hr⟩ := hp.cons_left
      obtain ⟨v1, vr1, rfl, h1, hr1⟩ := hr.cons_left
      have e0 := rep_str h0
      have e1 := rep_str h1
      have e4 := hr1.nil_left
      subst e0 e1 e4
      obtain ⟨m, hm⟩ := hM
      have hs : (⟨s.toArray⟩ : ByteArray).size = s.length := rfl
      have ho : (⟨o.toArray⟩ : ByteArray).size = o.length := rfl
      exact told_same (fun _ => .int .i64 _) (hc ⟨s.toArray⟩ ⟨o.toArray⟩ m w (by rw [hs]; omega) (cell_of hG hok h8 hm) (by rw [ho]; omega))
  · cases h

/-! ### strings.Repeat, strconv.Itoa -/
noncomputable def sRepeat (s : List UInt8) (n : Int) : Option (List UInt8) := if n < 0 ∨ 1000000 < n ∨ 1000000 < s.length then none else some (Lib.repeatL s n.toNat)
noncomputable def spRepeat : List V → Option V
  | [.str s, .int .i64 n] => (sRepeat s n).map V.str
  | _ => none
noncomputable def sRepeat_e : List SV → Objs → Option ((β : Type) → (SV → Objs → Option β) → Option β)
  | [.a (.v (.str s)), .a (.v (.int .i64 n))], os => some fun _ K => (sRepeat s n).bind fun p => K (.a (.v (.str p))) os
  | _, _ => none
theorem sRepeat_l : LibEntry spRepeat sRepeat_e := by
  intro args os t h
  unfold sRepeat_e at h
  split at h
  · rename_i os0 s n
    cases h
    exact ⟨_, [.str s, .int .i64 n], sRepeat s n, fun p => .str p, rfl, fun _ _ => rfl, fun q hq => by simp only [spRepeat, hq, Option.map_some]⟩
  · cases h
theorem sRepeat_ok {P : Program} {W : World} {f : FuncId} (hb : HasBody P f)
    (hc : ∀ (s : ByteArray) (c : Nat) (w : World), c ≤ 9223372036854775807 → s.size * c ≤ 140737488355328 → Calls P f #[.string s, .int .i64 c] w fun e w' => e = .returned (.string ⟨(Lib.repeatL s.data.toList c).toArray⟩) ∧ Below w.heap.size w w') : CallOK P (Gw W) fun g args os => if g = f then pureCall spRepeat args os else none := by
  refine told_pure hb fun vs r h S w vals hG hok hp => ?_
  unfold spRepeat at h
  split at h
  · rename_i s n
    unfold sRepeat at h
    split at h
    · cases h
    · rename_i hg
      cases h
      obtain ⟨v0, vr, rfl, h0, hr⟩ := hp.cons_left
      obtain ⟨v1, vr1, rfl, h1, hr1⟩ := hr.cons_left
      have e0 := rep_str h0
      have e1 : v1 = .int .i64 ((n.toNat : Nat) : Int) := by
        have : ((n.toNat : Nat) : Int) = n := by omega
        rw [this]; cases h1; rfl
      have e4 := hr1.nil_left
      subst e0 e1 e4
      have hs : (⟨s.toArray⟩ : ByteArray).size = s.length := rfl
      exact told_str (hc ⟨s.toArray⟩ n.toNat w (by omega) (by rw [hs]; exact Nat.le_trans (Nat.mul_le_mul (by omega : s.length ≤ 1000000) (by omega : n.toNat ≤ 1000000)) (by decide)))
  · cases h

noncomputable def itoa (n : Int) : Option (List UInt8) := if -9223372036854775808 ≤ n ∧ n ≤ 9223372036854775807 then some (Lib.itoa n) else none
noncomputable def spItoa : List V → Option V
  | [.int .i64 n] => (itoa n).map V.str
  | _ => none
noncomputable def itoa_e : List SV → Objs → Option ((β : Type) → (SV → Objs → Option β) → Option β)
  | [.a (.v (.int .i64 n))], os => some fun _ K => (itoa n).bind fun p => K (.a (.v (.str p))) os
  | _, _ => none
theorem itoa_l : LibEntry spItoa itoa_e := by
  intro args os t h
  unfold itoa_e at h
  split at h
  · rename_i os0 n
    cases h
    exact ⟨_, [.int .i64 n], itoa n, fun p => .str p, rfl, fun _ _ => rfl, fun q hq => by simp only [spItoa, hq, Option.map_some]⟩
  · cases h
theorem itoa_ok {P : Program} {W : World} {f : FuncId} (hb : HasBody P f) {nm : String} {g0 : Nat} (hg : P.globalNamed nm = some g0) (h8 : g0 < 64) (hT : Lib.TabIs P W nm .u64 Lib.pow10Tab)
    (hc : ∀ (n : Int) (w : World), -9223372036854775808 ≤ n → n ≤ 9223372036854775807 → Lib.TabIs P w nm .u64 Lib.pow10Tab → Calls P f #[.int .i64 n] w fun e w' => e = .returned (.string ⟨(Lib.itoa n).toArray⟩) ∧ ∃ k os, w' = Go.Sort.grow (w.drewN k) os) : CallOK P (Gw W) fun g args os => if g = f then pureCall spItoa args os else none := by
  refine told_pure hb fun vs r h S w vals hG hok hp => ?_
  unfold spItoa at h
  split at h
  · rename_i n
    unfold itoa at h
    split at h
    · rename_i hn
      cases h
      obtain ⟨v0, vr, rfl, h0, hr⟩ := hp.cons_left
      have e0 : v0 = .int .i64 n := by cases h0; rfl
      have e4 := hr.nil_left
      subst e0 e4
      exact told_str ((hc n w hn.1 hn.2 (tab_of hG hok hg h8 hT)).mono fun e w' ⟨he, k, os, hw⟩ => ⟨he, by rw [hw]; exact Lib.below_grow _ w (Nat.le_refl _) k os⟩)
    · cases h
  · cases h

/-! ### strings.Join -/
def strsV : List V → Option (List (List UInt8))
  | [] => some []
  | .str s :: r => match strsV r with | some l => some (s :: l) | none => none
  | _ :: _ => none
theorem strsV_map : ∀ {l : List V} {ts : List (List UInt8)}, strsV l = some ts → l = ts.map V.str := by
  intro l
  induction l with
  | nil => intro ts h; cases h; rfl
  | cons x l ih =>
    intro ts h
    cases x with
    | str s =>
      simp only [strsV] at h
      cases hr : strsV l with
      | none => rw [hr] at h; cases h
      | some us => rw [hr] at h; cases h; rw [ih hr]; rfl
    | _ => cases h
@[simp] theorem strsV_strs (ts : List (List UInt8)) : strsV (ts.map V.str) = some ts := by
  induction ts with
  | nil => rfl
  | cons t ts ih => simp only [List.map_cons, strsV, ih]

noncomputable def sJoin (o : Option (List V)) (sep : List UInt8) : Option (List UInt8) := (strsV (o.getD [])).bind fun ts => if ts.length ≤ 1000000 ∧ (Lib.join ts sep).length ≤ 1000000000 then some (Lib.join ts sep) else none
noncomputable def spJoin : List V → Option V
  | [.sl o, .str p] => (sJoin o p).map V.str
  | _ => none
noncomputable def sJoin_e : List SV → Objs → Option ((β : Type) → (SV → Objs → Option β) → Option β)
  | [.a (.v (.sl o)), .a (.v (.str p))], os => some fun _ K => (sJoin o p).bind fun p => K (.a (.v (.str p))) os
  | _, _ => none
theorem sJoin_l : LibEntry spJoin sJoin_e := by
  intro args os t h
  unfold sJoin_e at h
  split at h
  · rename_i os0 o p
    cases h
    exact ⟨_, [.sl o, .str p], sJoin o p, fun p => .str p, rfl, fun _ _ => rfl, fun q hq => by simp only [spJoin, hq, Option.map_some]⟩
  · cases h
theorem flat_strs (ts : List (List UInt8)) : flat (ts.map V.str) = ts.map V.str := by
  induction ts with
  | nil => rfl
  | cons t ts ih =>
    have : flat ((t :: ts).map V.str) = V.str t :: flat (ts.map V.str) := rfl
    rw [this, ih]; rfl
theorem sJoin_ok {P : Program} {W : World} {f : FuncId} (hb : HasBody P f)
    (h0 : ∀ (a : Option Addr) (c : Nat) (sep : ByteArray) (w : World), Calls P f #[.slice a 0 c, .string sep] w fun e w' => e = .returned (.string ⟨#[]⟩) ∧ w' = w)
    (hc : ∀ (bk o c : Nat) (xs : List ByteArray) (sep : ByteArray) (w : World), (∀ (j : Nat) x, xs[j]? = some x → w.cell? ⟨bk, o + j, none⟩ = some (.string x)) → bk < w.heap.size → xs.length ≤ 140737488355328 → xs.length ≤ c → (Lib.join (xs.map (·.data.toList)) sep.data.toList).length ≤ 140737488355328 →
      Calls P f #[.slice (some ⟨bk, o, none⟩) xs.length c, .string sep] w fun e w' => e = .returned (.string ⟨(Lib.join (xs.map (·.data.toList)) sep.data.toList).toArray⟩) ∧ Below w.heap.size w w') : CallOK P (Gw W) fun g args os => if g = f then pureCall spJoin args os else none := by
  refine told_pure hb fun vs r h S w vals hG hok hp => ?_
  unfold spJoin at h
  split at h
  · rename_i o p
    rw [Option.map_eq_some_iff] at h
    obtain ⟨q, h, rfl⟩ := h
    unfold sJoin at h
    rw [Option.bind_eq_some_iff] at h
    obtain ⟨ts, hts, h⟩ := h
    split at h
    · rename_i hg
      cases h
      obtain ⟨v0, vr, rfl, hv0, hr⟩ := hp.cons_left
      obtain ⟨v1, vr1, rfl, hv1, hr1⟩ := hr.cons_left
      have e1 := rep_str hv1
      have e4 := hr1.nil_left
      subst e1 e4
      have none_case : ∀ (a : Option Addr) (c : Nat), ts = [] → v0 = .slice a 0 c → Calls P f [v0, Value.string ⟨p.toArray⟩].toArray w (Answers S w (.str (Lib.join ts p))) := by
        intro a c e1 e2
        subst e1 e2
        exact told_same (fun _ => .str []) (h0 a c ⟨p.toArray⟩ w)
      cases o with
      | none =>
        cases hv0
        cases hts
        exact none_case none 0 rfl rfl
      | some xs =>
        have hxs := strsV_map hts
        simp only [Option.getD_some] at hxs
        generalize hvv : v0 = vv at hv0 none_case
        cases hv0 with
        | list0 a cap =>
          have : ts = [] := by cases ts with | nil => rfl | cons _ _ => cases hxs
          exact none_case a cap this rfl
        | list b off cap sz cells hsz hcap hl hcell hrr =>
          subst hxs
          cases ts with
          | nil => exact none_case _ _ rfl rfl
          | cons t0 tr =>
            have hcells : ∀ (j : Nat) (x : ByteArray), ((t0 :: tr).map fun t => (⟨t.toArray⟩ : ByteArray))[j]? = some x → w.cell? ⟨b, off + j, none⟩ = some (.string x) := by
              intro j x hx
              rw [List.getElem?_map] at hx
              obtain ⟨t, ht, rfl⟩ := Option.map_eq_some_iff.1 hx
              have hfl : (flat ((t0 :: tr).map V.str))[j]? = some (V.str t) := by rw [flat_strs, List.getElem?_map, ht]; rfl
              have hjl : j < cells.length := by
                rw [← hl]
                rcases Nat.lt_or_ge j (flat ((t0 :: tr).map V.str)).length with h' | h'
                · exact h'
                · rw [List.getElem?_eq_none h'] at hfl; cases hfl
              have hcv := List.getElem?_eq_getElem hjl
              have hrep := hrr j _ _ hfl hcv
              have e := rep_str hrep
              have := hok.cell _ _ _ (hcell j _ hcv)
              rw [this, e]
            have hbk : b < w.heap.size := by
              have := hcells 0 ⟨t0.toArray⟩ rfl
              exact World.block_lt_of_cell? w ⟨b, off + 0, none⟩ this
            have hmm : ((t0 :: tr).map fun t => (⟨t.toArray⟩ : ByteArray)).map (·.data.toList) = t0 :: tr := by
              rw [List.map_map]
              conv => rhs; rw [← List.map_id (t0 :: tr)]
              apply List.map_congr_left
              intro t _
              simp
            have hp' : (⟨p.toArray⟩ : ByteArray).data.toList = p := by simp
            have hlen : ((t0 :: tr).map fun t => (⟨t.toArray⟩ : ByteArray)).length = ((t0 :: tr).map V.str).length := by rw [List.length_map, List.length_map]
            have hl1 : (t0 :: tr).length ≤ 140737488355328 := by omega
            have := hc b off cap ((t0 :: tr).map fun t => (⟨t.toArray⟩ : ByteArray)) ⟨p.toArray⟩ w hcells hbk (by rw [List.length_map]; exact hl1) (by rw [hlen]; exact hcap) (by rw [hmm, hp']; omega)
            rw [hmm, hp', hlen] at this
            exact told_str (S := S) this
    · cases h
  · cases h

/-! ### strconv.Atoi: an error is told as one, not which -/
noncomputable def atoiT (tN : TypeId) (s : List UInt8) : Option (Int × V) := if 1000000 < s.length then none else match Lib.atoiAll s with
  | .ok v => some (v, .nili)
  | .range => some (Lib.atoiSat s, .iface tN (.pt (some [])))
  | _ => some (0, .iface tN (.pt (some [])))
noncomputable def spAtoi (tN : TypeId) : List V → Option V
  | [.str s] => (atoiT tN s).map fun p => .tup [.int .i64 p.1, p.2]
  | _ => none
noncomputable def atoi_e (tN : TypeId) : List SV → Objs → Option ((β : Type) → (SV → Objs → Option β) → Option β)
  | [.a (.v (.str s))], os => some fun _ K => (atoiT tN s).bind fun p => K (.a (.v (.tup [.int .i64 p.1, p.2]))) os
  | _, _ => none
theorem atoi_l (tN : TypeId) : LibEntry (spAtoi tN) (atoi_e tN) := by
  intro args os t h
  unfold atoi_e at h
  split at h
  · rename_i os0 s
    cases h
    exact ⟨_, [.str s], atoiT tN s, fun p => .tup [.int .i64 p.1, p.2], rfl, fun _ _ => rfl, fun q hq => by simp only [spAtoi, hq, Option.map_some]⟩
  · cases h
/-- What the package's error variables hold: some error. -/
def ErrVar (W : World) (b : Nat) : Prop := ∃ ev, W.cell? ⟨b, 0, none⟩ = some ev ∧ (ev = .nilIface ∨ ∃ te pe, ev = .iface te pe)
theorem atoi_ok {P : Program} {W : World} {f : FuncId} {tN : TypeId} (hb : HasBody P f) {g1 g2 : Nat} (h81 : g1 < 64) (h82 : g2 < 64) (hE1 : ErrVar W g1) (hE2 : ErrVar W g2) {tb tS : TypeId}
    (hok1 : ∀ (s : ByteArray) (v : Int) (w : World), s.size ≤ 9223372036854775806 → Lib.atoiAll s.data.toList = .ok v → Calls P f #[.string s] w fun e w' => e = .returned (.tuple #[.int .i64 v, .nilIface]) ∧ (w' = w ∨ ∃ t, w' = Lib.bytesWorld w tb t))
    (hsy : ∀ (s : ByteArray) (ev : Value) (w : World), s.size ≤ 281474976710656 → (∀ v, Lib.atoiAll s.data.toList ≠ .ok v) → Lib.atoiAll s.data.toList ≠ .range → w.cell? ⟨g1, 0, none⟩ = some ev → (ev = .nilIface ∨ ∃ te pe, ev = .iface te pe) →
      Calls P f #[.string s] w fun e w' => ∃ N, e = .returned (.tuple #[.int .i64 (0), .iface tN (.pointer (some ⟨N, 0, none⟩))]) ∧ w.heap.size ≤ N ∧ w'.heap[N]? = some (.cells #[.string ⟨#[65, 116, 111, 105]⟩, .string s, ev] tS (0, 0)) ∧ Below w.heap.size w w')
    (hra : ∀ (s : ByteArray) (ev : Value) (w : World), s.size ≤ 281474976710656 → Lib.atoiAll s.data.toList = .range → w.cell? ⟨g2, 0, none⟩ = some ev → (ev = .nilIface ∨ ∃ te pe, ev = .iface te pe) →
      Calls P f #[.string s] w fun e w' => ∃ N, e = .returned (.tuple #[.int .i64 (Lib.atoiSat s.data.toList), .iface tN (.pointer (some ⟨N, 0, none⟩))]) ∧ w.heap.size ≤ N ∧ w'.heap[N]? = some (.cells #[.string ⟨#[65, 116, 111, 105]⟩, .string s, ev] tS (0, 0)) ∧ Below w.heap.size w w') :
    CallOK P (Gw W) fun g args os => if g = f then pureCall (spAtoi tN) args os else none := by
  refine told_pure hb fun vs r h S w vals hG hok hp => ?_
  unfold spAtoi at h
  split at h
  · rename_i s
    rw [Option.map_eq_some_iff] at h
    obtain ⟨q, h, rfl⟩ := h
    unfold atoiT at h
    split at h
    · cases h
    · rename_i hg
      obtain ⟨v0, vr, rfl, h0, hr⟩ := hp.cons_left
      have e0 := rep_str h0
      have e4 := hr.nil_left
      subst e0 e4
      have hs : (⟨s.toArray⟩ : ByteArray).size = s.length := rfl
      have hd : (⟨s.toArray⟩ : ByteArray).data.toList = s := by simp
      have hrep : ∀ (S : Fz) (n : Int) (N : Nat), Rep S (.tup [.int .i64 n, .iface tN (.pt (some []))]) (.tuple #[.int .i64 n, .iface tN (.pointer (some ⟨N, 0, none⟩))]) := fun S n N =>
        Rep.mk_tup (Pw.cons (.int .i64 n) (Pw.cons (.iface tN (.ptr N 0 [] rfl (fun j v hv => by simp at hv) (fun j c v hc => by simp at hc))) Pw.nil))
      split at h
      · rename_i v hv
        cases h
        exact told_val (fun _ => Rep.mk_tup (Pw.cons (.int .i64 _) (Pw.cons .nili Pw.nil))) ((hok1 ⟨s.toArray⟩ v w (by rw [hs]; omega) (by rw [hd]; exact hv)).mono fun e w' ⟨he, hw⟩ => ⟨he, by
          rcases hw with rfl | ⟨t, rfl⟩
          · exact Below.refl _ _
          · exact Lib.bytesWorld_below w tb t⟩)
      · rename_i hv
        cases h
        obtain ⟨ev, hc, hev⟩ := hE2
        refine (hra ⟨s.toArray⟩ ev w (by rw [hs]; omega) (by rw [hd]; exact hv) (cell_of hG hok h82 hc) hev).mono fun e w' ⟨N, he, hN, hw, hbel⟩ => ?_
        rw [hd] at he
        exact ⟨_, he, hbel, w.heap.size, [], Nat.le_refl _, fun j u h => by simp at h, fun S' _ _ => hrep S' _ N⟩
      · rename_i n1 n2
        cases h
        obtain ⟨ev, hc, hev⟩ := hE1
        refine (hsy ⟨s.toArray⟩ ev w (by rw [hs]; omega) (by rw [hd]; exact n1) (by rw [hd]; exact n2) (cell_of hG hok h81 hc) hev).mono fun e w' ⟨N, he, hN, hw, hbel⟩ => ?_
        exact ⟨_, he, hbel, w.heap.size, [], Nat.le_refl _, fun j u h => by simp at h, fun S' _ _ => hrep S' _ N⟩
  · cases h
end Go.Ev
