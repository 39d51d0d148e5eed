/- What the rows' lists of laid variables give the told functions. -/
import Derived.Test.YtmlhdhndjgdoaaaGreatDoorCuTl2
import Derived.Lib.LaidU8
import Derived.Lib.LaidTab
namespace Go.Ev
open Go Go.RowKit
theorem tabIs_of_reads {P : Program} {W : World} {name : String} {k : IntKind} {zs : List Int} {g : Nat} {t e : TypeId} {n : Nat} (hg : P.globalNamed name = some g) (hty : (P.globals[g]?).map (·.type) = some t) (ht : P.underlying t = some (.array n e)) (he : P.underlying e = some (.int k)) (hce : P.cellsOf e = 1) (hct : P.cellsOf t = n)
    {d : DataW Unit} (h : Lib.VarReads P W name d) (hd0 : d = Lib.tabData k zs) : Lib.TabIs P W name k zs := by
  obtain ⟨g', t', cs, fuel, p, hg', ht', hvar, hd⟩ := h
  subst hd0
  obtain rfl := Option.some.inj (hg.symm.trans hg')
  obtain rfl := Option.some.inj (hty.symm.trans ht')
  unfold Lib.TabIs
  rw [hvar, ← Lib.cells_of_tab ht he hce hct hd]
def ifaceVar (P : Program) (g : Nat) : Bool := match P.globals[g]? with
  | some x => (match P.underlying x.type with | some (.interface _) => true | _ => false)
  | none => false
theorem errVar_of_reads {P : Program} {W : World} {name : String} {g : Nat} (hg : P.globalNamed name = some g) (hi : ifaceVar P g = true) {d : DataW Unit} (h : Lib.VarReads P W name d) : ErrVar W g := by
  obtain ⟨g', t', cs, fuel, p, hg', ht', hvar, hd⟩ := h
  obtain rfl := Option.some.inj (hg.symm.trans hg')
  obtain ⟨t, ms, hty, ht⟩ : ∃ t ms, (P.globals[g]?).map (·.type) = some t ∧ P.underlying t = some (.interface ms) := by
    unfold ifaceVar at hi
    cases hx : P.globals[g]? with
    | none => rw [hx] at hi; cases hi
    | some x =>
      rw [hx] at hi
      simp only at hi
      split at hi
      · rename_i ms hm; exact ⟨x.type, ms, rfl, hm⟩
      · cases hi
  obtain rfl := Option.some.inj (hty.symm.trans ht')
  have hc := World.var?_cell hg hvar 0
  rw [← Array.getElem?_toList] at hc
  generalize cs.toList = l at hd hc
  cases fuel with
  | zero => simp [DataW.trod] at hd
  | succ fuel =>
    cases l with
    | nil => simp [DataW.trod, ht] at hd
    | cons v r =>
      cases r with
      | cons _ _ => cases v <;> simp [DataW.trod, ht] at hd
      | nil =>
        cases v <;> first | (simp [DataW.trod, ht] at hd; done) | exact ⟨_, hc, .inl rfl⟩ | exact ⟨_, hc, .inr ⟨_, _, rfl⟩⟩
end Go.Ev
