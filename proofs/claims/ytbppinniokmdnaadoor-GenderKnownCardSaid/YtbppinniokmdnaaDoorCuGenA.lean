/- The library's functions that the closed law of genders meets, told. -/
import Derived.Test.YtbppinniokmdnaaDoorCuTold
import Derived.Test.YtbppinniokmdnaaDoorShelf
import Derived.Lib.SplitLaws
import Derived.KernelRfl
namespace Go.Proofs.YtbppinniokmdnaaDoor.gen
open Go.Ev Go.RowKit

def spSplit : List V → Option V
  | [.str s, .str p] => if p.length = 0 ∨ s.length > 1000000 then none else some (.list ((Lib.split s p).map V.str))
  | _ => none
def strsOf : List V → Option (List (List UInt8))
  | [] => some []
  | .str s :: r => match strsOf r with | some l => some (s :: l) | none => none
  | _ => none
def spClone : List V → Option V
  | [.nils] => some .nils
  | [.list l] => match strsOf l with
    | some zs => if zs.length ≤ 1000000 ∧ zs ≠ [] then some (.list (zs.map V.str)) else none
    | none => none
  | _ => none
def tab : Ev.Told := fun f => if f = 39 then some (pureCall spSplit) else if f = 48 then some (pureCall spClone) else none

/-- What the package's variable holds: internal/bytealg.MaxLen. -/
def G (m : Int) : Globs := fun b i => if b = 0 ∧ i = 0 then some (.int .i64 m) else none

theorem rep_str {S : Fz} {s : List UInt8} {v : Value} (h : Rep S (.str s) v) : v = .string ⟨s.toArray⟩ := by cases h; rfl

theorem told_str {S : Fz} {w : World} {r : List UInt8} {f : FuncId} {args : Array Value} (h : Calls Tryd.prog f args w fun e w' => e = .returned (.string ⟨r.toArray⟩) ∧ Below w.heap.size w w') : Calls Tryd.prog f args w (Answers S w (.str r)) :=
  h.mono fun _ _ ⟨h1, h2⟩ => ⟨_, h1, h2, w.heap.size, [], Nat.le_refl _, fun j u h => by simp at h, fun _ _ _ => .str r⟩

theorem body (f : FuncId) (fn : Func) (h : Tryd.prog.funcs[f]? = some fn) (hb : (fn.body.isSome && !(fn.name == "runtime.NumGoroutine")) = true) : HasBody Tryd.prog f := by
  simp only [Bool.and_eq_true, Bool.not_eq_true'] at hb
  exact ⟨fn, h, hb.1, hb.2⟩

theorem split_ok (m : Int) : CallOK Tryd.prog (G m) fun g args os => if g = 39 then pureCall spSplit args os else none := by
  refine told_pure (body 39 Tryd.f39 Tryd.func39 (by kernel_rfl)) fun vs r h S w vals hG hok hp => ?_
  unfold spSplit at h
  split at h
  · rename_i s p
    split at h
    · cases h
    · rename_i hg
      cases h
      obtain ⟨v0, vr, rfl, h0, hr⟩ := hp.cons_left
      obtain ⟨v1, vr1, rfl, h1, hr1⟩ := hr.cons_left
      have e0 := rep_str h0
      have e1 := rep_str h1
      have e2 := hr1.nil_left
      subst e0 e1 e2
      have hs : (⟨s.toArray⟩ : ByteArray).size = s.length := rfl
      have hps : (⟨p.toArray⟩ : ByteArray).size = p.length := rfl
      have hm : w.cell? ⟨0, 0, none⟩ = some (.int .i64 m) := hok.cell _ _ _ (hok.g 0 0 _ (by rw [hG]; rfl))
      refine (Tryd.strings_Split ⟨s.toArray⟩ ⟨p.toArray⟩ m w (by rw [hs]; omega) hm (by rw [hps]; omega)).mono fun e w' ⟨he, hw⟩ => ?_
      have hlen := Lib.splitB_all ⟨p.toArray⟩ (by rw [hps]; omega) 0 _ ⟨s.toArray⟩ rfl
      have hdata := Lib.splitB_data ⟨p.toArray⟩ 0 (Lib.countB ⟨s.toArray⟩ ⟨p.toArray⟩) ⟨s.toArray⟩
      generalize Lib.splitB ⟨p.toArray⟩ 0 (Lib.countB ⟨s.toArray⟩ ⟨p.toArray⟩) ⟨s.toArray⟩ = pieces at hw hlen hdata
      have hsp : Lib.split s p = pieces.map (·.data.toList) := hdata.symm
      refine ⟨_, he, by rw [hw]; exact Below.alloc (Below.refl _ _) (Nat.le_refl _) _, w.heap.size, pieces.map Value.string, Nat.le_refl _, fun j u hj => ?_, fun S' _ hl => ?_⟩
      · rw [hw]
        have := heap_alloc_new w (.cells (pieces.map Value.string).toArray 9)
        simp only [World.cell?, this]
        simpa using hj
      · rw [hsp]
        have hfl : ∀ l : List ByteArray, flat ((l.map (·.data.toList)).map V.str) = (l.map (·.data.toList)).map V.str := by
          intro l
          induction l with
          | nil => rfl
          | cons x l ih =>
            have e : flat (((x :: l).map (·.data.toList)).map V.str) = [V.str x.data.toList] ++ flat ((l.map (·.data.toList)).map V.str) := by simp [flat, V.cells]
            rw [e, ih]; rfl
        have hrep := Rep.list (S := S') (xs := (pieces.map (·.data.toList)).map V.str) w.heap.size 0 (Lib.countB ⟨s.toArray⟩ ⟨p.toArray⟩ + 1) 1 (pieces.map Value.string) (fun x hx => by
            obtain ⟨y, _, rfl⟩ := List.mem_map.1 hx
            rfl) (by simp [hlen]) (by rw [hfl]; simp) hl (fun j c u hc hu => by
            rw [hfl] at hc
            simp only [List.getElem?_map] at hc hu
            cases hq : pieces[j]? with
            | none => rw [hq] at hu; cases hu
            | some x =>
              rw [hq] at hc hu
              cases hc
              cases hu
              exact .str _)
        simpa [hlen] using hrep
  · cases h

theorem strsOf_some : ∀ {l : List V} {zs : List (List UInt8)}, strsOf l = some zs → l = zs.map V.str := by
  intro l
  induction l with
  | nil => intro zs h; simp [strsOf] at h; subst h; rfl
  | cons x r ih =>
    intro zs h
    unfold strsOf at h
    split at h
    · rename_i hx; cases hx
    · rename_i s r' hx
      cases hx
      split at h
      · rename_i l hl
        cases h
        rw [ih hl]; rfl
      · cases h
    · cases h

theorem flat_strs (zs : List (List UInt8)) : flat (zs.map V.str) = zs.map V.str := by
  induction zs with
  | nil => rfl
  | cons x l ih =>
    have e : flat ((x :: l).map V.str) = [V.str x] ++ flat (l.map V.str) := by simp [flat, V.cells]
    rw [e, ih]; rfl

theorem clone_ok (m : Int) : CallOK Tryd.prog (G m) fun g args os => if g = 48 then pureCall spClone args os else none := by
  refine told_pure (body 48 Tryd.f48 Tryd.func48 (by kernel_rfl)) fun vs r h S w vals hG hok hp => ?_
  unfold spClone at h
  split at h
  · cases h
    obtain ⟨v0, vr, rfl, h0, hr⟩ := hp.cons_left
    have e2 := hr.nil_left
    subst e2
    cases h0
    exact (Tryd.slices_Clone_string_nil 0 0 w).mono fun e w' ⟨he, hw⟩ => ⟨_, he, by rw [hw]; exact Below.refl _ _, w.heap.size, [], Nat.le_refl _, fun j u h => by simp at h, fun _ _ _ => .nils⟩
  · rename_i l
    split at h
    · rename_i zs hzs
      split at h
      · rename_i hg
        cases h
        have hl := strsOf_some hzs
        subst hl
        obtain ⟨v0, vr, rfl, h0, hr⟩ := hp.cons_left
        have e2 := hr.nil_left
        subst e2
        generalize hxs : zs.map V.str = xs at h0
        cases h0 with
        | list0 => exact absurd (by simpa using hxs) hg.2
        | list b o cap sz us h1 h2 h3 h4 h5 =>
          subst hxs
          rw [flat_strs] at h3 h5
          let bs : List ByteArray := zs.map fun z => ⟨z.toArray⟩
          have hbl : bs.length = zs.length := by simp [bs]
          have hcell : ∀ j, j < bs.length → w.cell? ⟨b, o + j, none⟩ = some (.string (bs.getD j ByteArray.empty)) := by
            intro j hj
            have hjz : j < zs.length := by omega
            have hju : j < us.length := by rw [← h3]; simpa using hjz
            have := h5 j (.str zs[j]) us[j] (by simp [List.getElem?_eq_getElem hjz]) (List.getElem?_eq_getElem hju)
            rw [hok.cell _ _ _ (h4 j us[j] (List.getElem?_eq_getElem hju)), rep_str this]
            simp [bs, List.getD, hjz]
          have := Tryd.slices_Clone_string b o (zs.map V.str).length cap bs w (by simp [bs]) (by simp; omega) hcell
          refine this.mono fun e w' ⟨v', he, hrow, hne, hb⟩ => ?_
          rcases hrow.2 with ⟨hv, _⟩ | ⟨g, c, cur, hv, hge, hgb, hnc, hcm, hcs, htk⟩
          · exact absurd hv hne
          · subst hv
            have htake : bs.take (zs.map V.str).length = bs := List.take_of_length_le (by simp [bs])
            rw [htake] at hrow
            refine ⟨_, he, hb, g, bs.map Value.string, hge, fun j u hj => ?_, fun S' _ hlies => ?_⟩
            · have hc := hrow.cells (g := g) rfl j u hj
              rwa [add_plain, Nat.zero_add] at hc
            · refine .list g 0 c 1 (bs.map Value.string) (fun x hx => ?_) hnc (by rw [flat_strs]; simp [bs]) hlies (fun j a u ha hu => ?_)
              · obtain ⟨z, _, rfl⟩ := List.mem_map.1 hx
                rfl
              · rw [flat_strs] at ha
                simp only [bs, List.getElem?_map] at ha hu
                cases hq : zs[j]? with
                | none => rw [hq] at ha; cases ha
                | some z =>
                  rw [hq] at ha hu
                  cases ha
                  cases hu
                  exact .str _
      · cases h
    · cases h
  · cases h

theorem tab_ok (m : Int) : ToldOK Tryd.prog (G m) tab := by
  intro f sp h
  unfold tab at h
  split at h
  · rename_i hf; cases h; subst hf; exact split_ok m
  · split at h
    · rename_i hf; cases h; subst hf; exact clone_ok m
    · cases h

/-- The program's code. -/
def codeOf (P : Program) (f : FuncId) : Option SFn := match P.funcs[f]? with
  | some fn => if fn.name == "runtime.NumGoroutine" then none else cFn P false fn
  | none => none
theorem codeOf_ok (P : Program) : CodeOK P (codeOf P) := by
  intro f sfn h
  unfold codeOf at h
  split at h
  · rename_i fn hf
    split at h
    · cases h
    · rename_i hn
      exact ⟨fn, false, hf, by simpa using hn, h⟩
  · cases h
end Go.Proofs.YtbppinniokmdnaaDoor.gen
