/- A whole call, evaluated: for a row. -/
import Derived.Test.YtmlhdhndjgdoaaaGreatDoorCuRet
namespace Go.Ev
open Go.RowKit
/-- A whole call, evaluated. -/
theorem calls_of_ev {P : Program} {G : Globs} {tab : ToldK} {code : FuncId → Option SFn} {F d : Nat} (hm : P.follows .mixedOrders = true) (hT : CallOK P G (toE tab)) (hc : CodeOK P code) {f : FuncId} {args : List V} {r : V}
    (he : callM (toE tab) code F d f (args.map fun x => .a (.v x)) [] = some ⟨.a (.v r), []⟩)
    {W : World} {vals : List Value} (hG : G.ok W) (hp : Pw (Rep (allFz W G)) args vals) :
    Calls P f vals.toArray W fun e W' => ∃ v S', e = .returned v ∧ Rep S' r v ∧ Below W.heap.size W W' := by
  obtain ⟨_, h⟩ := callM_ok (F := F) hT hc (fun mm call n0 h => region_ok hm h) d _ _ _ _ he
  have hs : HeapSim (allFz W G) (fun _ => none) [] W := ⟨allFz_ok hG, fun i o h => (by simp [obj] at h), fun i j o o' L L' h => (by simp [obj] at h), fun _ _ => rfl⟩
  have hpw : Pw (relS (allFz W G) fun _ => none) (args.map fun x => SV.a (.v x)) vals := Pw.map_left (f := fun x => SV.a (.v x)) (R := relS (allFz W G) fun _ => none) hp
  refine (h (allFz W G) (fun _ => none) W vals rfl hs hpw).mono fun e W' he' => ?_
  obtain ⟨v, rfl, S', σ', h1, h2, h3⟩ := he'
  refine ⟨v, S', rfl, h2, h3.so, h3.tape, h3.output, h3.size, fun b hb => (h3.keep b hb ?_).1⟩
  rintro ⟨i, o, L, ho, _⟩
  simp [obj] at ho

end Go.Ev
