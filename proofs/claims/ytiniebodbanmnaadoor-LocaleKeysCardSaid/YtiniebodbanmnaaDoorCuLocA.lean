/- The library's functions that the laws of locales meet, told. -/
import Derived.Test.YtiniebodbanmnaaDoorCuTold
import Derived.Test.YtiniebodbanmnaaDoorShelf
import Derived.Lib.SplitLaws
import Derived.KernelRfl
namespace Go.Proofs.YtiniebodbanmnaaDoor.loc
open Go.Ev Go.RowKit

def spSplit : List V → Option V
  | [.str s, .str p] => if p.length = 0 ∨ s.length > 1000000 then none else some (.list ((Lib.split s p).map V.str))
  | _ => none
def spUp : List V → Option V
  | [.str s] => if s.all (fun c => decide (c.toNat < 128)) = true ∧ s.length ≤ 1000000 then some (.str (Lib.toUpperA s)) else none
  | _ => none
def spLow : List V → Option V
  | [.str s] => if s.all (fun c => decide (c.toNat < 128)) = true ∧ s.length ≤ 1000000 then some (.str (Lib.toLowerA s)) else none
  | _ => none
def tab : Ev.Told := fun f => if f = 11 then some (pureCall spSplit) else if f = 19 then some (pureCall spUp) else if f = 20 then some (pureCall spLow) else none

/-- What the package's variable holds: internal/bytealg.MaxLen. -/
def G (m : Int) : Globs := fun b i => if b = 0 ∧ i = 0 then some (.int .i64 m) else none

theorem rep_str {S : Fz} {s : List UInt8} {v : Value} (h : Rep S (.str s) v) : v = .string ⟨s.toArray⟩ := by cases h; rfl

theorem told_str {S : Fz} {w : World} {r : List UInt8} {f : FuncId} {args : Array Value} (h : Calls Tryd.prog f args w fun e w' => e = .returned (.string ⟨r.toArray⟩) ∧ Below w.heap.size w w') : Calls Tryd.prog f args w (Answers S w (.str r)) :=
  h.mono fun _ _ ⟨h1, h2⟩ => ⟨_, h1, h2, w.heap.size, [], Nat.le_refl _, fun j u h => by simp at h, fun _ _ _ => .str r⟩

theorem body (f : FuncId) (fn : Func) (h : Tryd.prog.funcs[f]? = some fn) (hb : (fn.body.isSome && !(fn.name == "runtime.NumGoroutine")) = true) : HasBody Tryd.prog f := by
  simp only [Bool.and_eq_true, Bool.not_eq_true'] at hb
  exact ⟨fn, h, hb.1, hb.2⟩

theorem split_ok (m : Int) : CallOK Tryd.prog (G m) fun g args os => if g = 11 then pureCall spSplit args os else none := by
  refine told_pure (body 11 Tryd.f11 Tryd.func11 (by kernel_rfl)) fun vs r h S w vals hG hok hp => ?_
  unfold spSplit at h
  split at h
  · rename_i s p
    split at h
    · cases h
    · rename_i hg
      cases h
      obtain ⟨v0, vr, rfl, h0, hr⟩ := hp.cons_left
      obtain ⟨v1, vr1, rfl, h1, hr1⟩ := hr.cons_left
      have e0 := rep_str h0
      have e1 := rep_str h1
      have e2 := hr1.nil_left
      subst e0 e1 e2
      have hs : (⟨s.toArray⟩ : ByteArray).size = s.length := rfl
      have hps : (⟨p.toArray⟩ : ByteArray).size = p.length := rfl
      have hm : w.cell? ⟨0, 0, none⟩ = some (.int .i64 m) := hok.cell _ _ _ (hok.g 0 0 _ (by rw [hG]; rfl))
      refine (Tryd.strings_Split ⟨s.toArray⟩ ⟨p.toArray⟩ m w (by rw [hs]; omega) hm (by rw [hps]; omega)).mono fun e w' ⟨he, hw⟩ => ?_
      have hlen := Lib.splitB_all ⟨p.toArray⟩ (by rw [hps]; omega) 0 _ ⟨s.toArray⟩ rfl
      have hdata := Lib.splitB_data ⟨p.toArray⟩ 0 (Lib.countB ⟨s.toArray⟩ ⟨p.toArray⟩) ⟨s.toArray⟩
      generalize Lib.splitB ⟨p.toArray⟩ 0 (Lib.countB ⟨s.toArray⟩ ⟨p.toArray⟩) ⟨s.toArray⟩ = pieces at hw hlen hdata
      have hsp : Lib.split s p = pieces.map (·.data.toList) := hdata.symm
      refine ⟨_, he, by rw [hw]; exact Below.alloc (Below.refl _ _) (Nat.le_refl _) _, w.heap.size, pieces.map Value.string, Nat.le_refl _, fun j u hj => ?_, fun S' _ hl => ?_⟩
      · rw [hw]
        have := heap_alloc_new w (.cells (pieces.map Value.string).toArray 9)
        simp only [World.cell?, this]
        simpa using hj
      · rw [hsp]
        have hfl : ∀ l : List ByteArray, flat ((l.map (·.data.toList)).map V.str) = (l.map (·.data.toList)).map V.str := by
          intro l
          induction l with
          | nil => rfl
          | cons x l ih =>
            have e : flat (((x :: l).map (·.data.toList)).map V.str) = [V.str x.data.toList] ++ flat ((l.map (·.data.toList)).map V.str) := by simp [flat, V.cells]
            rw [e, ih]; rfl
        have hrep := Rep.list (S := S') (xs := (pieces.map (·.data.toList)).map V.str) w.heap.size 0 (Lib.countB ⟨s.toArray⟩ ⟨p.toArray⟩ + 1) 1 (pieces.map Value.string) (fun x hx => by
            obtain ⟨y, _, rfl⟩ := List.mem_map.1 hx
            rfl) (by simp [hlen]) (by rw [hfl]; simp) hl (fun j c u hc hu => by
            rw [hfl] at hc
            simp only [List.getElem?_map] at hc hu
            cases hq : pieces[j]? with
            | none => rw [hq] at hu; cases hu
            | some x =>
              rw [hq] at hc hu
              cases hc
              cases hu
              exact .str _)
        simpa [hlen] using hrep
  · cases h

theorem up_ok (m : Int) : CallOK Tryd.prog (G m) fun g args os => if g = 19 then pureCall spUp args os else none := by
  refine told_pure (body 19 Tryd.f19 Tryd.func19 (by kernel_rfl)) fun vs r h S w vals hG hok hp => ?_
  unfold spUp at h
  split at h
  · rename_i s
    split at h
    · rename_i hg
      cases h
      obtain ⟨v0, vr, rfl, h0, hr⟩ := hp.cons_left
      have e0 := rep_str h0
      have e2 := hr.nil_left
      subst e0 e2
      have hs : (⟨s.toArray⟩ : ByteArray).size = s.length := rfl
      exact told_str (Tryd.strings_ToUpper_ascii ⟨s.toArray⟩ w (by rw [hs]; omega) fun j b hb => by simpa using List.all_eq_true.1 hg.1 b (List.mem_of_getElem? hb))
    · cases h
  · cases h

theorem low_ok (m : Int) : CallOK Tryd.prog (G m) fun g args os => if g = 20 then pureCall spLow args os else none := by
  refine told_pure (body 20 Tryd.f20 Tryd.func20 (by kernel_rfl)) fun vs r h S w vals hG hok hp => ?_
  unfold spLow at h
  split at h
  · rename_i s
    split at h
    · rename_i hg
      cases h
      obtain ⟨v0, vr, rfl, h0, hr⟩ := hp.cons_left
      have e0 := rep_str h0
      have e2 := hr.nil_left
      subst e0 e2
      have hs : (⟨s.toArray⟩ : ByteArray).size = s.length := rfl
      exact told_str (Tryd.strings_ToLower_ascii ⟨s.toArray⟩ w (by rw [hs]; omega) fun j b hb => by simpa using List.all_eq_true.1 hg.1 b (List.mem_of_getElem? hb))
    · cases h
  · cases h

theorem tab_ok (m : Int) : ToldOK Tryd.prog (G m) tab := by
  intro f sp h
  unfold tab at h
  split at h
  · rename_i hf; cases h; subst hf; exact split_ok m
  · split at h
    · rename_i hf; cases h; subst hf; exact up_ok m
    · split at h
      · rename_i hf; cases h; subst hf; exact low_ok m
      · cases h

/-- The program's code. -/
def codeOf (P : Program) (f : FuncId) : Option SFn := match P.funcs[f]? with
  | some fn => if fn.name == "runtime.NumGoroutine" then none else cFn P false fn
  | none => none
theorem codeOf_ok (P : Program) : CodeOK P (codeOf P) := by
  intro f sfn h
  unfold codeOf at h
  split at h
  · rename_i fn hf
    split at h
    · cases h
    · rename_i hn
      exact ⟨fn, false, hf, by simpa using hn, h⟩
  · cases h
end Go.Proofs.YtiniebodbanmnaaDoor.loc
