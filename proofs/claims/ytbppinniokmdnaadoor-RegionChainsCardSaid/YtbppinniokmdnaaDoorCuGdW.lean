/- Plain law: RegionChains. -/
import Derived.Test.YtbppinniokmdnaaDoorCuGdZ
namespace Go.Proofs.YtbppinniokmdnaaDoor.gd
open Go Go.Ev
set_option linter.unusedSimpArgs false

theorem rtexts_same (ts : List Str) (hl : ts.length ≤ 1000000) : rtexts (some (ts.map V.str)) (some (ts.map V.str)) = some true := by
  have hlen : slLen (some (ts.map V.str)) = ts.length := by simp [slLen]
  obtain ⟨r, h1, h2⟩ := loopK_inv (body := rtexts_L0) (fun v => ∃ i : Nat, i ≤ ts.length ∧ v = (0, [.v (.sl (some (ts.map V.str))), .v (.sl (some (ts.map V.str))), .v (.int .i64 i)]))
    (fun v => match hV v.2 2 with | .int _ k => (ts.length - k).toNat | _ => 0) (fun r => r = (1, [])) (fun v ⟨i, hi, hv⟩ => by
      subst hv
      by_cases hlt : i < ts.length
      · obtain ⟨x, e1, e2, e3⟩ := idxL_lt (xs := ts.map V.str) (n := (i : Int)) (by omega) (by simp; omega)
        obtain ⟨t, _, rfl⟩ := List.mem_map.1 e2
        have hw := w64 (x := (i : Int) + 1) (by omega) (by omega)
        exact .inl ⟨(0, [.v (.sl (some (ts.map V.str))), .v (.sl (some (ts.map V.str))), .v (.int .i64 ((i + 1 : Nat) : Int))]), by simp [rtexts_L0, sel, hV, hlen, hlt, e1, hw], ⟨i + 1, hlt, rfl⟩, by simp only [hV, List.getD_cons_succ, List.getD_cons_zero]; omega⟩
      · exact .inr ⟨(1, []), by simp [rtexts_L0, sel, hV, hlen, hlt], rfl⟩) FU _ ⟨0, Nat.zero_le _, rfl⟩ (by simp only [hV, FU, List.getD_cons_succ, List.getD_cons_zero]; omega)
  subst h2
  unfold rtexts
  have h1 : loopK rtexts_L0 FU (0, [.v (.sl (some (ts.map V.str))), .v (.sl (some (ts.map V.str))), .v (.int .i64 0)]) = some (1, []) := h1
  rw [h1]
  simp [sel]

/-- No text stands at two places. -/
theorem lchains1_some {ts : List Str} (hn : ts.Nodup) (hl : ts.length ≤ 1000000) (p : Str) (w : Option (List V)) (i : Nat) (hi : i < ts.length) :
    loopK lchains_L1 FU (0, [.v (.str p), .v (.pt w), .v (.sl (some (ts.map V.str))), .v (.int .i64 i), .v (.int .i64 0)]) = some (1, [.v (.str p), .v (.pt w), .v (.sl (some (ts.map V.str))), .v (.int .i64 i)]) := by
  have at_ : ∀ q : Nat, ∀ hq : q < ts.length, idxL (ts.map V.str) (q : Int) = some (V.str ts[q]) := by
    intro q hq
    obtain ⟨x, e1, e2, e3⟩ := idxL_lt (xs := ts.map V.str) (n := (q : Int)) (by omega) (by simp; omega)
    rw [Int.toNat_natCast, List.getElem?_map, List.getElem?_eq_getElem hq] at e3
    rw [e1, ← Option.some.inj e3]
  obtain ⟨r, h1, h2⟩ := loopK_inv (body := lchains_L1) (fun v => ∃ k : Nat, k ≤ i ∧ v = (0, [.v (.str p), .v (.pt w), .v (.sl (some (ts.map V.str))), .v (.int .i64 i), .v (.int .i64 k)]))
    (fun v => match hV v.2 4 with | .int _ k => (i - k).toNat | _ => 0) (fun r => r = (1, [.v (.str p), .v (.pt w), .v (.sl (some (ts.map V.str))), .v (.int .i64 i)])) (fun v ⟨k, hk, hv⟩ => by
      subst hv
      by_cases hlt : k < i
      · have ei := at_ i hi
        have ek := at_ k (by omega)
        have hne : ts[i] ≠ ts[k]'(by omega) := fun e => by
          have := (List.getElem_inj (h₀ := hi) (h₁ := by omega) hn).1 e
          omega
        have hneb : (ts[i] == ts[k]'(by omega)) = false := by simpa using hne
        have hw := w64 (x := (k : Int) + 1) (by omega) (by omega)
        exact .inl ⟨(0, [.v (.str p), .v (.pt w), .v (.sl (some (ts.map V.str))), .v (.int .i64 i), .v (.int .i64 ((k + 1 : Nat) : Int))]), by simp [lchains_L1, sel, hV, hlt, ei, ek, hneb, hw], ⟨k + 1, hlt, rfl⟩, by simp only [hV, List.getD_cons_succ, List.getD_cons_zero]; omega⟩
      · exact .inr ⟨(1, [.v (.str p), .v (.pt w), .v (.sl (some (ts.map V.str))), .v (.int .i64 i)]), by simp [lchains_L1, sel, hV, hlt], rfl⟩) FU _ ⟨0, Nat.zero_le _, rfl⟩ (by simp only [hV, FU, List.getD_cons_succ, List.getD_cons_zero]; omega)
  subst h2
  exact h1

theorem lchains0_some {ts : List Str} (hn : ts.Nodup) (hl : ts.length ≤ 1000000) (p : Str) (w : Option (List V)) :
    loopK lchains_L0 FU (0, [.v (.str p), .v (.pt w), .v (.sl (some (ts.map V.str))), .v (.int .i64 0)]) = some (1, [.v (.str p), .v (.pt w), .v (.sl (some (ts.map V.str)))]) := by
  have hlen : slLen (some (ts.map V.str)) = ts.length := by simp [slLen]
  obtain ⟨r, h1, h2⟩ := loopK_inv (body := lchains_L0) (fun v => ∃ i : Nat, i ≤ ts.length ∧ v = (0, [.v (.str p), .v (.pt w), .v (.sl (some (ts.map V.str))), .v (.int .i64 i)]))
    (fun v => match hV v.2 3 with | .int _ k => (ts.length - k).toNat | _ => 0) (fun r => r = (1, [.v (.str p), .v (.pt w), .v (.sl (some (ts.map V.str)))])) (fun v ⟨i, hi, hv⟩ => by
      subst hv
      by_cases hlt : i < ts.length
      · have hin := lchains1_some hn hl p w i hlt
        have hw := w64 (x := (i : Int) + 1) (by omega) (by omega)
        exact .inl ⟨(0, [.v (.str p), .v (.pt w), .v (.sl (some (ts.map V.str))), .v (.int .i64 ((i + 1 : Nat) : Int))]), by simp [lchains_L0, sel, hV, hlen, hlt, hin, hw], ⟨i + 1, hlt, rfl⟩, by simp only [hV, List.getD_cons_succ, List.getD_cons_zero]; omega⟩
      · exact .inr ⟨(1, [.v (.str p), .v (.pt w), .v (.sl (some (ts.map V.str)))]), by simp [lchains_L0, sel, hV, hlen, hlt], rfl⟩) FU _ ⟨0, Nat.zero_le _, rfl⟩ (by simp only [hV, FU, List.getD_cons_succ, List.getD_cons_zero]; omega)
  subst h2
  exact h1

theorem lchains_true {o : Option (List V)} (h : RowsT big big big o) (p : Str) : lchains o p = some true := by
  obtain ⟨t, h1, h2⟩ := heavy_some h
  unfold lchains
  rw [awake15_true, rheavy_eq]
  simp only [Option.bind_some, h1]
  cases t with
  | true => rfl
  | false =>
    obtain ⟨r, h3, h4⟩ := rload_some (h2 rfl)
    rw [h3]
    by_cases g1 : (50 : Int) < (p.length : Int)
    · simp [g1]
    rcases h4 with ⟨m, lk, ha, hm, rfl⟩ | ⟨n, e, rfl, he⟩
    · obtain ⟨l, ca, _⟩ := ha.ch (by omega) p
      have na : l.length ≤ 1801 := by have := ca.len rplace_nil; omega
      have hch := rchain_ch lk ca (by omega)
      have hi : (W2 m lk).isNone = false := rfl
      have hlen : slLen (some ((l ++ [w001]).map V.str)) = l.length + 1 := by simp [slLen]
      have hw := w64 (x := (l.length : Int) + 1 - 1) (by omega) (by omega)
      have hlast : idxL ((l ++ [w001]).map V.str) ((l.length : Int)) = some (.str w001) := by
        obtain ⟨x, e1, e2, e3⟩ := idxL_lt (xs := (l ++ [w001]).map V.str) (n := (l.length : Int)) (by omega) (by simp; omega)
        rw [e1]
        rw [Int.toNat_natCast] at e3
        simp at e3
        rw [e3]
      have hnd : (l ++ [w001]).Nodup := by
        rw [List.nodup_append]
        refine ⟨ca.nodup, by simp, fun a ha' b hb e => ?_⟩
        have := ca.go_of a ha'
        rw [e, List.mem_singleton.1 hb, go_w001] at this
        cases this
      have h0 := lchains0_some hnd (by simp; omega) p (W2 m lk)
      have hge : ¬ ((l.length : Int) + 1 < 1) := by omega
      have hs : ((l.length : Int) + 1 - 1) = (l.length : Int) := by omega
      rw [hs] at hw
      have front : ((slLen (some ((l ++ [w001]).map V.str)) : Nat) : Int) = (l.length : Int) + 1 := by rw [hlen]; omega
      simp only [g1, gt_iff_lt, decide_false, cond_false, hi, Option.bind_some, bne_self_eq_false, cond_true, Bool.not_true, hch, front, hge, hs, hw, Option.getD_some, hlast, asStr_str, beq_self_eq_true, h0, sel, hV, List.getD_cons_zero, List.getD_cons_succ, asPt_pt, asSl_sl]
      cases ca with
      | stop hg =>
        have : decide ((([] : List Str).length : Int) + 1 < 2) = true := by decide
        simp only [this, cond_true]
      | @step _ l' hg hl' =>
        have h2' : decide ((((p :: l') : List Str).length : Int) + 1 < 2) = false := decide_eq_false (by simp only [List.length_cons]; omega)
        simp only [List.length_cons] at na
        have i0 : idxL ((p :: l' ++ [w001]).map V.str) 0 = some (.str p) := rfl
        have hc2 : cutSl 1 (some 1) none (some ((p :: l' ++ [w001]).map V.str)) = some (some ((l' ++ [w001]).map V.str)) := cut1 p (l' ++ [w001])
        have nx : ∃ q, idxL ((p :: l' ++ [w001]).map V.str) 1 = some (.str q) ∧ Chn m q l' := by
          cases hl' with
          | stop h5 => exact ⟨w001, rfl, .stop go_w001⟩
          | @step _ l2 h5 h6 => exact ⟨_, rfl, .step h5 h6⟩
        obtain ⟨q, i1, cq⟩ := nx
        have hq := rchain_ch lk cq (by omega)
        have htx := rtexts_same (l' ++ [w001]) (by simp; omega)
        simp only [h2', cond_false, i0, i1, Option.bind_some, asStr_str, beq_self_eq_true, cond_true, hq, hc2, htx]
    · have : (e != 0) = true := by simpa using he
      simp [g1, this]
end Go.Proofs.YtbppinniokmdnaaDoor.gd
