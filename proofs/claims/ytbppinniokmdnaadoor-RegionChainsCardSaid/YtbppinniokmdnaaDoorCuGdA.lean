/- The library's functions that the laws of genders and regions meet, told by their contracts. -/
import Derived.Test.YtbppinniokmdnaaDoorCuStE
import Derived.Test.YtbppinniokmdnaaDoorShelf
import Derived.Lib.SplitLaws
import Derived.Lib.TrimU
import Derived.KernelRfl
namespace Go.Proofs.YtbppinniokmdnaaDoor.gd
open Go Go.Ev Go.RowKit

/-- The package's variables that are laid: those of the first blocks. -/
def Gw (W : World) : Globs := fun b i => if b < 8 then W.cell? ⟨b, i, none⟩ else none
theorem Gw_ok (W : World) : ∀ b i v, Gw W b i = some v → W.cell? ⟨b, i, none⟩ = some v := by
  intro b i v h
  unfold Gw at h
  split at h
  · exact h
  · cases h

/-- What must be laid. -/
structure Laid (W : World) : Prop where
  maxLen : ∃ m, W.cell? ⟨0, 0, none⟩ = some (.int .i64 m)
  tabs : Lib.Utf8Tabs 2 3 W

theorem cell_of {W w : World} {S : Fz} (hG : S.g = Gw W) (hok : S.ok w) {b i : Nat} {v : Value} (hb : b < 8) (h : W.cell? ⟨b, i, none⟩ = some v) : w.cell? ⟨b, i, none⟩ = some v :=
  hok.cell _ _ _ (hok.g _ _ _ (by rw [hG]; simp only [Gw, hb, if_true]; exact h))

theorem tabs_of {W w : World} {S : Fz} (hG : S.g = Gw W) (hok : S.ok w) (h : Lib.Utf8Tabs 2 3 W) : Lib.Utf8Tabs 2 3 w :=
  ⟨fun c hc => cell_of hG hok (by omega) (h.1 c hc), fun i hi => ⟨cell_of hG hok (by omega) (h.2 i hi).1, cell_of hG hok (by omega) (h.2 i hi).2⟩⟩

theorem rep_str {S : Fz} {s : List UInt8} {v : Value} (h : Rep S (.str s) v) : v = .string ⟨s.toArray⟩ := by cases h; rfl

theorem body (f : FuncId) (fn : Func) (h : Tryd.prog.funcs[f]? = some fn) (hb : (fn.body.isSome && !(fn.name == "runtime.NumGoroutine")) = true) : HasBody Tryd.prog f := by
  simp only [Bool.and_eq_true, Bool.not_eq_true'] at hb
  exact ⟨fn, h, hb.1, hb.2⟩

/-! ### strings.Split -/
noncomputable def spl (s p : List UInt8) : Option (Option (List V)) := if p.length = 0 ∨ s.length > 1000000 then none else some (some ((Lib.split s p).map V.str))
noncomputable def spSplit : List V → Option V
  | [.str s, .str p] => (spl s p).map V.sl
  | _ => none
noncomputable def spl_e : List SV → Objs → Option ((β : Type) → (SV → Objs → Option β) → Option β)
  | [.a (.v (.str s)), .a (.v (.str p))], os => some fun _ K => (spl s p).bind fun p => K (.a (.v (.sl p))) os
  | _, _ => none
theorem spl_l : LibEntry spSplit spl_e := by
  intro args os t h
  unfold spl_e at h
  split at h
  · rename_i os0 s p
    cases h
    exact ⟨_, [.str s, .str p], spl s p, fun p => .sl p, rfl, fun _ _ => rfl, fun q hq => by simp only [spSplit, hq, Option.map_some]⟩
  · cases h

theorem split_ok {W : World} (hL : Laid W) : CallOK Tryd.prog (Gw W) fun g args os => if g = 39 then pureCall spSplit args os else none := by
  refine told_pure (body 39 Tryd.f39 Tryd.func39 (by kernel_rfl)) fun vs r h S w vals hG hok hp => ?_
  unfold spSplit at h
  split at h
  · rename_i s p
    unfold spl at h
    split at h
    · cases h
    · rename_i hg
      cases h
      obtain ⟨v0, vr, rfl, h0, hr⟩ := hp.cons_left
      obtain ⟨v1, vr1, rfl, h1, hr1⟩ := hr.cons_left
      have e0 := rep_str h0
      have e1 := rep_str h1
      have e2 := hr1.nil_left
      subst e0 e1 e2
      have hs : (⟨s.toArray⟩ : ByteArray).size = s.length := rfl
      have hps : (⟨p.toArray⟩ : ByteArray).size = p.length := rfl
      obtain ⟨m, hm0⟩ := hL.maxLen
      have hm : w.cell? ⟨0, 0, none⟩ = some (.int .i64 m) := cell_of hG hok (by omega) hm0
      refine (Tryd.strings_Split ⟨s.toArray⟩ ⟨p.toArray⟩ m w (by rw [hs]; omega) hm (by rw [hps]; omega)).mono fun e w' ⟨he, hw⟩ => ?_
      have hlen := Lib.splitB_all ⟨p.toArray⟩ (by rw [hps]; omega) 0 _ ⟨s.toArray⟩ rfl
      have hdata := Lib.splitB_data ⟨p.toArray⟩ 0 (Lib.countB ⟨s.toArray⟩ ⟨p.toArray⟩) ⟨s.toArray⟩
      generalize Lib.splitB ⟨p.toArray⟩ 0 (Lib.countB ⟨s.toArray⟩ ⟨p.toArray⟩) ⟨s.toArray⟩ = pieces at hw hlen hdata
      have hsp : Lib.split s p = pieces.map (·.data.toList) := hdata.symm
      refine ⟨_, he, by rw [hw]; exact Below.alloc (Below.refl _ _) (Nat.le_refl _) _, w.heap.size, pieces.map Value.string, Nat.le_refl _, fun j u hj => ?_, fun S' _ hl => ?_⟩
      · rw [hw]
        have := heap_alloc_new w (.cells (pieces.map Value.string).toArray 9)
        simp only [World.cell?, this]
        simpa using hj
      · rw [hsp]
        have hfl : ∀ l : List ByteArray, flat ((l.map (·.data.toList)).map V.str) = (l.map (·.data.toList)).map V.str := by
          intro l
          induction l with
          | nil => rfl
          | cons x l ih =>
            have e : flat (((x :: l).map (·.data.toList)).map V.str) = [V.str x.data.toList] ++ flat ((l.map (·.data.toList)).map V.str) := by simp [flat, V.cells]
            rw [e, ih]; rfl
        have hrep := Rep.list (S := S') (xs := (pieces.map (·.data.toList)).map V.str) w.heap.size 0 (Lib.countB ⟨s.toArray⟩ ⟨p.toArray⟩ + 1) 1 (pieces.map Value.string) (fun x hx => by
            obtain ⟨y, _, rfl⟩ := List.mem_map.1 hx
            rfl) (by simp [hlen]) (by rw [hfl]; simp) hl (fun j c u hc hu => by
            rw [hfl] at hc
            simp only [List.getElem?_map] at hc hu
            cases hq : pieces[j]? with
            | none => rw [hq] at hu; cases hu
            | some x =>
              rw [hq] at hc hu
              cases hc
              cases hu
              exact .str _)
        simpa [hlen] using hrep
  · cases h

/-! ### utf8.DecodeLastRuneInString -/
noncomputable def dlr (s : List UInt8) : Option (Int × Int) := if s.length ≤ 9223372036854775807 then some (((Lib.decodeLastL s).1 : Nat), ((Lib.decodeLastL s).2 : Nat)) else none
noncomputable def spDlr : List V → Option V
  | [.str s] => (dlr s).map fun p => .tup [.int .i32 p.1, .int .i64 p.2]
  | _ => none
noncomputable def dlr_e : List SV → Objs → Option ((β : Type) → (SV → Objs → Option β) → Option β)
  | [.a (.v (.str s))], os => some fun _ K => (dlr s).bind fun p => K (.a (.v (.tup [.int .i32 p.1, .int .i64 p.2]))) os
  | _, _ => none
theorem dlr_l : LibEntry spDlr dlr_e := by
  intro args os t h
  unfold dlr_e at h
  split at h
  · rename_i os0 s
    cases h
    exact ⟨_, [.str s], dlr s, fun p => .tup [.int .i32 p.1, .int .i64 p.2], rfl, fun _ _ => rfl, fun q hq => by simp only [spDlr, hq, Option.map_some]⟩
  · cases h

theorem dlr_ok {W : World} (hL : Laid W) : CallOK Tryd.prog (Gw W) fun g args os => if g = 93 then pureCall spDlr args os else none := by
  refine told_pure (body 93 Tryd.f93 Tryd.func93 (by kernel_rfl)) fun vs r h S w vals hG hok hp => ?_
  unfold spDlr at h
  split at h
  · rename_i s
    unfold dlr at h
    split at h
    · rename_i hlen
      cases h
      obtain ⟨v0, vr, rfl, h0, hr⟩ := hp.cons_left
      have e0 := rep_str h0
      have e2 := hr.nil_left
      subst e0 e2
      refine (Tryd.utf8_DecodeLastRuneInString ⟨s.toArray⟩ w hlen (tabs_of hG hok hL.tabs)).mono fun e w' ⟨he, hb⟩ => ?_
      refine ⟨_, he, hb, w.heap.size, [], Nat.le_refl _, fun j u h => by simp at h, fun S' _ _ => ?_⟩
      exact Rep.mk_tup (Pw.cons (.int .i32 _) (Pw.cons (.int .i64 _) Pw.nil))
    · cases h
  · cases h

/-! ### strings.ToUpper, of bytes below 128 -/
noncomputable def upr (s : List UInt8) : Option (List UInt8) := if s.all (fun c => decide (c.toNat < 128)) = true ∧ s.length ≤ 1000000 then some (Lib.toUpperA s) else none
noncomputable def spUp : List V → Option V
  | [.str s] => (upr s).map V.str
  | _ => none
noncomputable def upr_e : List SV → Objs → Option ((β : Type) → (SV → Objs → Option β) → Option β)
  | [.a (.v (.str s))], os => some fun _ K => (upr s).bind fun p => K (.a (.v (.str p))) os
  | _, _ => none
theorem upr_l : LibEntry spUp upr_e := by
  intro args os t h
  unfold upr_e at h
  split at h
  · rename_i os0 s
    cases h
    exact ⟨_, [.str s], upr s, fun p => .str p, rfl, fun _ _ => rfl, fun q hq => by simp only [spUp, hq, Option.map_some]⟩
  · cases h

theorem told_str {S : Fz} {w : World} {r : List UInt8} {f : FuncId} {args : Array Value} (h : Calls Tryd.prog f args w fun e w' => e = .returned (.string ⟨r.toArray⟩) ∧ Below w.heap.size w w') : Calls Tryd.prog f args w (Answers S w (.str r)) :=
  h.mono fun _ _ ⟨h1, h2⟩ => ⟨_, h1, h2, w.heap.size, [], Nat.le_refl _, fun j u h => by simp at h, fun _ _ _ => .str r⟩

theorem upr_ok {W : World} : CallOK Tryd.prog (Gw W) fun g args os => if g = 60 then pureCall spUp args os else none := by
  refine told_pure (body 60 Tryd.f60 Tryd.func60 (by kernel_rfl)) fun vs r h S w vals hG hok hp => ?_
  unfold spUp at h
  split at h
  · rename_i s
    unfold upr at h
    split at h
    · rename_i hg
      cases h
      obtain ⟨v0, vr, rfl, h0, hr⟩ := hp.cons_left
      have e0 := rep_str h0
      have e2 := hr.nil_left
      subst e0 e2
      have hs : (⟨s.toArray⟩ : ByteArray).size = s.length := rfl
      exact told_str (Tryd.strings_ToUpper_ascii ⟨s.toArray⟩ w (by rw [hs]; omega) fun j b hb => by simpa using List.all_eq_true.1 hg.1 b (List.mem_of_getElem? hb))
    · cases h
  · cases h

noncomputable def tab0 : ToldK := addTo (addTo (addTo noTold 39 spl_e) 93 dlr_e) 60 upr_e
theorem tab0_binds : Binds tab0 := lib_binds (lib_binds (lib_binds noTold_binds spl_l) dlr_l) upr_l
theorem tab0_ok {W : World} (hL : Laid W) : CallOK Tryd.prog (Gw W) (toE tab0) := lib_ok (lib_ok (lib_ok noTold_ok (split_ok hL) spl_l) (dlr_ok hL) dlr_l) upr_ok upr_l
end Go.Proofs.YtbppinniokmdnaaDoor.gd
