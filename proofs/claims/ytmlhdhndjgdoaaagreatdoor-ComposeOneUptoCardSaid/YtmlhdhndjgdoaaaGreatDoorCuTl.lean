/- Told functions of the library, whatever the program: what they tell; their contracts bear it. -/
import Derived.Test.YtmlhdhndjgdoaaaGreatDoorCuStE
import Derived.Lib.SplitLaws
import Derived.Lib.TrimU
import Derived.Lib.LaidU8T
import Derived.Lib.LaidTab
import Derived.Lib.Case
namespace Go.Ev
open Go Go.RowKit
abbrev FU : Nat := 4294967296

/-- The package's variables that are laid: those of the first blocks. -/
def Gw (W : World) : Globs := ⟨fun b i => if b < 64 then W.cell? ⟨b, i, none⟩ else none, fun b => if b < 64 then (match W.heap[b]? with | some (.cells cs _ _) => some (.cells cs) | _ => none) else none⟩
theorem Gw_ok (W : World) : (Gw W).ok W := by
  refine ⟨fun b i v h => ?_, fun b k h => ?_⟩
  · unfold Gw at h
    simp only at h
    split at h
    · exact h
    · cases h
  · unfold Gw at h
    simp only at h
    split at h
    · split at h
      · rename_i cs ty fz hb
        cases h
        exact ⟨ty, fz, hb⟩
      · cases h
    · cases h
/-- A laid variable's whole row stands. -/
theorem row_of {W w : World} {S : Fz} (hG : S.g = Gw W) (hok : S.ok w) {b : Nat} {cs : Array Value} {ty : TypeId} {fz : Nat × Nat} (hb : b < 64) (h : W.heap[b]? = some (.cells cs ty fz)) : ∃ ty fz, w.heap[b]? = some (.cells cs ty fz) :=
  hok.mp b (.cells cs) (hok.gm b _ (by rw [hG]; simp only [Gw, hb, if_true, h]))
/-- A laid table stands. -/
theorem tab_of {P : Program} {W w : World} {S : Fz} {n : String} {k : IntKind} {zs : List Int} {g : Nat} (hG : S.g = Gw W) (hok : S.ok w) (hg : P.globalNamed n = some g) (hb : g < 64) (h : Lib.TabIs P W n k zs) : Lib.TabIs P w n k zs := by
  unfold Lib.TabIs World.var? at h ⊢
  rw [hg] at h ⊢
  simp only [Option.bind_some] at h ⊢
  split at h
  · rename_i cs ty fz hc
    obtain ⟨t, f, hw⟩ := row_of hG hok hb hc
    rw [hw]; exact h
  · cases h
theorem cell_of {W w : World} {S : Fz} (hG : S.g = Gw W) (hok : S.ok w) {b i : Nat} {v : Value} (hb : b < 64) (h : W.cell? ⟨b, i, none⟩ = some v) : w.cell? ⟨b, i, none⟩ = some v :=
  hok.cell _ _ _ (hok.g _ _ _ (by rw [hG]; simp only [Gw, hb, if_true]; exact h))
theorem tabs_of {W w : World} {S : Fz} {t1 t2 : Nat} (hG : S.g = Gw W) (hok : S.ok w) (h1 : t1 < 64) (h2 : t2 < 64) (h : Lib.Utf8Tabs t1 t2 W) : Lib.Utf8Tabs t1 t2 w :=
  ⟨fun c hc => cell_of hG hok (by omega) (h.1 c hc), fun i hi => ⟨cell_of hG hok (by omega) (h.2 i hi).1, cell_of hG hok (by omega) (h.2 i hi).2⟩⟩
theorem rep_str {S : Fz} {s : List UInt8} {v : Value} (h : Rep S (.str s) v) : v = .string ⟨s.toArray⟩ := by cases h; rfl
theorem body_of {P : Program} (f : FuncId) (fn : Func) (h : P.funcs[f]? = some fn) (hb : (fn.body.isSome && !(fn.name == "runtime.NumGoroutine")) = true) : HasBody P f := by
  simp only [Bool.and_eq_true, Bool.not_eq_true'] at hb
  exact ⟨fn, h, hb.1, hb.2⟩

/-! ### strings.Split -/
noncomputable def spl (s p : List UInt8) : Option (Option (List V)) := if p.length = 0 ∨ s.length > 1000000 then none else some (some ((Lib.split s p).map V.str))
noncomputable def spSplit : List V → Option V
  | [.str s, .str p] => (spl s p).map V.sl
  | _ => none
noncomputable def spl_e : List SV → Objs → Option ((β : Type) → (SV → Objs → Option β) → Option β)
  | [.a (.v (.str s)), .a (.v (.str p))], os => some fun _ K => (spl s p).bind fun p => K (.a (.v (.sl p))) os
  | _, _ => none
theorem spl_l : LibEntry spSplit spl_e := by
  intro args os t h
  unfold spl_e at h
  split at h
  · rename_i os0 s p
    cases h
    exact ⟨_, [.str s, .str p], spl s p, fun p => .sl p, rfl, fun _ _ => rfl, fun q hq => by simp only [spSplit, hq, Option.map_some]⟩
  · cases h

theorem split_ok {P : Program} {W : World} {f : FuncId} (hb : HasBody P f) {bm : Nat} {ty : TypeId} (h8 : bm < 64) (hM : ∃ m, W.cell? ⟨bm, 0, none⟩ = some (.int .i64 m))
    (hc : ∀ (s sep : ByteArray) (m : Int) (w : World), s.size < 4294967281 → w.cell? ⟨bm, 0, none⟩ = some (.int .i64 m) → 1 ≤ sep.size → Calls P f #[.string s, .string sep] w fun e w' =>
      e = .returned (.slice (some ⟨w.heap.size, 0, none⟩) (Lib.countB s sep + 1) (Lib.countB s sep + 1)) ∧ w' = w.alloc (.cells ((Lib.splitB sep 0 (Lib.countB s sep) s).map Value.string).toArray ty)) : CallOK P (Gw W) fun g args os => if g = f then pureCall spSplit args os else none := by
  refine told_pure hb fun vs r h S w vals hG hok hp => ?_
  unfold spSplit at h
  split at h
  · rename_i s p
    unfold spl at h
    split at h
    · cases h
    · rename_i hg
      cases h
      obtain ⟨v0, vr, rfl, h0, hr⟩ := hp.cons_left
      obtain ⟨v1, vr1, rfl, h1, hr1⟩ := hr.cons_left
      have e0 := rep_str h0
      have e1 := rep_str h1
      have e2 := hr1.nil_left
      subst e0 e1 e2
      have hs : (⟨s.toArray⟩ : ByteArray).size = s.length := rfl
      have hps : (⟨p.toArray⟩ : ByteArray).size = p.length := rfl
      obtain ⟨m, hm0⟩ := hM
      have hm : w.cell? ⟨bm, 0, none⟩ = some (.int .i64 m) := cell_of hG hok h8 hm0
      refine (hc ⟨s.toArray⟩ ⟨p.toArray⟩ m w (by rw [hs]; omega) hm (by rw [hps]; omega)).mono fun e w' ⟨he, hw⟩ => ?_
      have hlen := Lib.splitB_all ⟨p.toArray⟩ (by rw [hps]; omega) 0 _ ⟨s.toArray⟩ rfl
      have hdata := Lib.splitB_data ⟨p.toArray⟩ 0 (Lib.countB ⟨s.toArray⟩ ⟨p.toArray⟩) ⟨s.toArray⟩
      generalize Lib.splitB ⟨p.toArray⟩ 0 (Lib.countB ⟨s.toArray⟩ ⟨p.toArray⟩) ⟨s.toArray⟩ = pieces at hw hlen hdata
      have hsp : Lib.split s p = pieces.map (·.data.toList) := hdata.symm
      refine ⟨_, he, by rw [hw]; exact Below.alloc (Below.refl _ _) (Nat.le_refl _) _, w.heap.size, pieces.map Value.string, Nat.le_refl _, fun j u hj => ?_, fun S' _ hl => ?_⟩
      · rw [hw]
        have := heap_alloc_new w (.cells (pieces.map Value.string).toArray ty)
        simp only [World.cell?, this]
        simpa using hj
      · rw [hsp]
        have hfl : ∀ l : List ByteArray, flat ((l.map (·.data.toList)).map V.str) = (l.map (·.data.toList)).map V.str := by
          intro l
          induction l with
          | nil => rfl
          | cons x l ih =>
            have e : flat (((x :: l).map (·.data.toList)).map V.str) = [V.str x.data.toList] ++ flat ((l.map (·.data.toList)).map V.str) := by simp [flat, V.cells]
            rw [e, ih]; rfl
        have hrep := Rep.list (S := S') (xs := (pieces.map (·.data.toList)).map V.str) w.heap.size 0 (Lib.countB ⟨s.toArray⟩ ⟨p.toArray⟩ + 1) 1 (pieces.map Value.string) (fun x hx => by
            obtain ⟨y, _, rfl⟩ := List.mem_map.1 hx
            rfl) (by simp [hlen]) (by rw [hfl]; simp) hl (fun j c u hc hu => by
            rw [hfl] at hc
            simp only [List.getElem?_map] at hc hu
            cases hq : pieces[j]? with
            | none => rw [hq] at hu; cases hu
            | some x =>
              rw [hq] at hc hu
              cases hc
              cases hu
              exact .str _)
        simpa [hlen] using hrep
  · cases h

/-! ### utf8.DecodeLastRuneInString -/
noncomputable def dlr (s : List UInt8) : Option (Int × Int) := if s.length ≤ 9223372036854775807 then some (((Lib.decodeLastL s).1 : Nat), ((Lib.decodeLastL s).2 : Nat)) else none
noncomputable def spDlr : List V → Option V
  | [.str s] => (dlr s).map fun p => .tup [.int .i32 p.1, .int .i64 p.2]
  | _ => none
noncomputable def dlr_e : List SV → Objs → Option ((β : Type) → (SV → Objs → Option β) → Option β)
  | [.a (.v (.str s))], os => some fun _ K => (dlr s).bind fun p => K (.a (.v (.tup [.int .i32 p.1, .int .i64 p.2]))) os
  | _, _ => none
theorem dlr_l : LibEntry spDlr dlr_e := by
  intro args os t h
  unfold dlr_e at h
  split at h
  · rename_i os0 s
    cases h
    exact ⟨_, [.str s], dlr s, fun p => .tup [.int .i32 p.1, .int .i64 p.2], rfl, fun _ _ => rfl, fun q hq => by simp only [spDlr, hq, Option.map_some]⟩
  · cases h

theorem dlr_ok {P : Program} {W : World} {f : FuncId} (hb : HasBody P f) {t1 t2 : Nat} (h1 : t1 < 64) (h2 : t2 < 64) (hT : Lib.Utf8Tabs t1 t2 W)
    (hc : ∀ (s : ByteArray) (w : World), s.size ≤ 9223372036854775807 → Lib.Utf8Tabs t1 t2 w → Calls P f #[.string s] w fun e w' => e = .returned (.tuple #[.int .i32 (Lib.decodeLastL s.data.toList).1, .int .i64 (Lib.decodeLastL s.data.toList).2]) ∧ Below w.heap.size w w') : CallOK P (Gw W) fun g args os => if g = f then pureCall spDlr args os else none := by
  refine told_pure hb fun vs r h S w vals hG hok hp => ?_
  unfold spDlr at h
  split at h
  · rename_i s
    unfold dlr at h
    split at h
    · rename_i hlen
      cases h
      obtain ⟨v0, vr, rfl, h0, hr⟩ := hp.cons_left
      have e0 := rep_str h0
      have e2 := hr.nil_left
      subst e0 e2
      refine (hc ⟨s.toArray⟩ w hlen (tabs_of hG hok h1 h2 hT)).mono fun e w' ⟨he, hb⟩ => ?_
      refine ⟨_, he, hb, w.heap.size, [], Nat.le_refl _, fun j u h => by simp at h, fun S' _ _ => ?_⟩
      exact Rep.mk_tup (Pw.cons (.int .i32 _) (Pw.cons (.int .i64 _) Pw.nil))
    · cases h
  · cases h

/-! ### strings.ToUpper, of bytes below 128 -/
noncomputable def upr (s : List UInt8) : Option (List UInt8) := if s.all (fun c => decide (c.toNat < 128)) = true ∧ s.length ≤ 1000000 then some (Lib.toUpperA s) else none
noncomputable def spUp : List V → Option V
  | [.str s] => (upr s).map V.str
  | _ => none
noncomputable def upr_e : List SV → Objs → Option ((β : Type) → (SV → Objs → Option β) → Option β)
  | [.a (.v (.str s))], os => some fun _ K => (upr s).bind fun p => K (.a (.v (.str p))) os
  | _, _ => none
theorem upr_l : LibEntry spUp upr_e := by
  intro args os t h
  unfold upr_e at h
  split at h
  · rename_i os0 s
    cases h
    exact ⟨_, [.str s], upr s, fun p => .str p, rfl, fun _ _ => rfl, fun q hq => by simp only [spUp, hq, Option.map_some]⟩
  · cases h

theorem told_str {P : Program} {S : Fz} {w : World} {r : List UInt8} {f : FuncId} {args : Array Value} (h : Calls P f args w fun e w' => e = .returned (.string ⟨r.toArray⟩) ∧ Below w.heap.size w w') : Calls P f args w (Answers S w (.str r)) :=
  h.mono fun _ _ ⟨h1, h2⟩ => ⟨_, h1, h2, w.heap.size, [], Nat.le_refl _, fun j u h => by simp at h, fun _ _ _ => .str r⟩

theorem upr_ok {P : Program} {W : World} {f : FuncId} (hb : HasBody P f)
    (hc : ∀ (s : ByteArray) (w : World), s.size ≤ 140737488355328 → (∀ (j : Nat) (b : UInt8), s.data.toList[j]? = some b → b.toNat < 128) → Calls P f #[.string s] w fun e w' => e = .returned (.string ⟨(Lib.toUpperA s.data.toList).toArray⟩) ∧ Below w.heap.size w w') : CallOK P (Gw W) fun g args os => if g = f then pureCall spUp args os else none := by
  refine told_pure hb fun vs r h S w vals hG hok hp => ?_
  unfold spUp at h
  split at h
  · rename_i s
    unfold upr at h
    split at h
    · rename_i hg
      cases h
      obtain ⟨v0, vr, rfl, h0, hr⟩ := hp.cons_left
      have e0 := rep_str h0
      have e2 := hr.nil_left
      subst e0 e2
      have hs : (⟨s.toArray⟩ : ByteArray).size = s.length := rfl
      exact told_str (hc ⟨s.toArray⟩ w (by rw [hs]; omega) fun j b hb => by simpa using List.all_eq_true.1 hg.1 b (List.mem_of_getElem? hb))
    · cases h
  · cases h

/-! ### strings.ToLower, of bytes below 128 -/
noncomputable def lwr (s : List UInt8) : Option (List UInt8) := if s.all (fun c => decide (c.toNat < 128)) = true ∧ s.length ≤ 1000000 then some (Lib.toLowerA s) else none
noncomputable def spLow : List V → Option V
  | [.str s] => (lwr s).map V.str
  | _ => none
noncomputable def lwr_e : List SV → Objs → Option ((β : Type) → (SV → Objs → Option β) → Option β)
  | [.a (.v (.str s))], os => some fun _ K => (lwr s).bind fun p => K (.a (.v (.str p))) os
  | _, _ => none
theorem lwr_l : LibEntry spLow lwr_e := by
  intro args os t h
  unfold lwr_e at h
  split at h
  · rename_i os0 s
    cases h
    exact ⟨_, [.str s], lwr s, fun p => .str p, rfl, fun _ _ => rfl, fun q hq => by simp only [spLow, hq, Option.map_some]⟩
  · cases h

theorem lwr_ok {P : Program} {W : World} {f : FuncId} (hb : HasBody P f)
    (hc : ∀ (s : ByteArray) (w : World), s.size ≤ 140737488355328 → (∀ (j : Nat) (b : UInt8), s.data.toList[j]? = some b → b.toNat < 128) → Calls P f #[.string s] w fun e w' => e = .returned (.string ⟨(Lib.toLowerA s.data.toList).toArray⟩) ∧ Below w.heap.size w w') : CallOK P (Gw W) fun g args os => if g = f then pureCall spLow args os else none := by
  refine told_pure hb fun vs r h S w vals hG hok hp => ?_
  unfold spLow at h
  split at h
  · rename_i s
    unfold lwr at h
    split at h
    · rename_i hg
      cases h
      obtain ⟨v0, vr, rfl, h0, hr⟩ := hp.cons_left
      have e0 := rep_str h0
      have e2 := hr.nil_left
      subst e0 e2
      have hs : (⟨s.toArray⟩ : ByteArray).size = s.length := rfl
      exact told_str (hc ⟨s.toArray⟩ w (by rw [hs]; omega) fun j b hb => by simpa using List.all_eq_true.1 hg.1 b (List.mem_of_getElem? hb))
    · cases h
  · cases h

end Go.Ev
