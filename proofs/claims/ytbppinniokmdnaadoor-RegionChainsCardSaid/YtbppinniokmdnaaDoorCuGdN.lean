/- Plain laws: gender.Load answers; GenderName. -/
import Derived.Test.YtbppinniokmdnaaDoorCuGdQ
namespace Go.Proofs.YtbppinniokmdnaaDoor.gd
open Go Go.Ev
set_option linter.unusedSimpArgs false

abbrev Str := List UInt8
def key2 (k : Str × Str) : V := .agg [.str k.1, .str k.2]
theorem key2_eq (a b : Str × Str) : keyEq ⟨true, [.s, .s]⟩ (key2 a) (key2 b) = some (decide (a = b)) := by
  obtain ⟨a1, a2⟩ := a
  obtain ⟨b1, b2⟩ := b
  have : keyEq ⟨true, [.s, .s]⟩ (key2 (a1, a2)) (key2 (b1, b2)) = eqL [.s, .s] [.str a1, .str a2] [.str b1, .str b2] := rfl
  rw [this]
  simp only [eqL, eqF]
  by_cases h1 : a1 = b1
  · by_cases h2 : a2 = b2
    · simp [h1, h2]
    · have h2' : (a2 == b2) = false := by simpa using h2
      rw [h2']
      simp [h1, h2]
  · have h1' : (a1 == b1) = false := by simpa using h1
    rw [h1']
    simp [h1]
abbrev encG (m : List ((Str × Str) × Str)) : List (V × T2) := encM key2 V.str m

theorem look2 (a b : Str) (m : List ((Str × Str) × Str)) : lookE ⟨true, [.s, .s]⟩ (.agg [.str a, .str b]) (encG m) = some ((getM (a, b) m).map V.str) := lookE_enc key2_eq (a, b) m
theorem put2 (a b x : Str) (m : List ((Str × Str) × Str)) : putE ⟨true, [.s, .s]⟩ (.agg [.str a, .str b]) (.a (.v (.str x))) (encG m) = some (encG (putM (a, b) x m)) := putE_enc key2_eq (a, b) x m

def low : List UInt8 := [97, 98, 99, 100, 101, 102, 103, 104, 105, 106, 107, 108, 109, 110, 111, 112, 113, 114, 115, 116, 117, 118, 119, 120, 121, 122]
def lowd : List UInt8 := [97, 98, 99, 100, 101, 102, 103, 104, 105, 106, 107, 108, 109, 110, 111, 112, 113, 114, 115, 116, 117, 118, 119, 120, 121, 122, 48, 49, 50, 51, 52, 53, 54, 55, 56, 57]

theorem gload_some {o : Option (List V)} (h : RowsT 60 30 120 o) : ∃ r, gload o = some r ∧ ((∃ m, r = (some [.mp (some (encF key2 V.str m))], 0, 0)) ∨ ∃ n e, r = (none, n, e) ∧ e ≠ 0) := by
  obtain ⟨l, q1, q2⟩ := rowsOf_some [103, 101, 110, 100, 101, 114] h
  have hlen : slLen l ≤ 60 := by
    cases l with
    | none => simp [slLen]
    | some xs => exact (q2 xs rfl).1
  obtain ⟨r, h1, h2⟩ := loopK_inv (body := gload_L0) (fun v => ∃ i : Nat, ∃ m : List ((Str × Str) × Str), i ≤ slLen l ∧ m.length ≤ i ∧ v = (0, [.v (.sl l), .v (.int .i64 (slLen l)), .v (.int .i64 i), .m (encG m)]))
    (fun v => match hV v.2 2 with | .int _ k => (slLen l - k).toNat | _ => 0) (fun r => (∃ m : List ((Str × Str) × Str), r = (1, [.m (encG m)])) ∨ ∃ n e : Int, r = (0, [.v (.pt none), .v (.int .i64 n), .v (.int .i64 e)]) ∧ e ≠ 0) (fun v ⟨i, m, hi, hm, hv⟩ => by
      subst hv
      by_cases hlt : i < slLen l
      · cases l with
        | none => simp [slLen] at hlt
        | some xs =>
          have hsl : slLen (some xs) = xs.length := rfl
          rw [hsl] at hlt hi hlen
          obtain ⟨x, e1, e2, _⟩ := idxL_lt (xs := xs) (n := (i : Int)) (by omega) (by omega)
          obtain ⟨k, ws, rfl, hw1, hw2, hw3⟩ := (q2 xs rfl).2 x e2
          obtain ⟨ts, rfl, hts⟩ := strs_of hw3
          have hwi := w64 (x := (i : Int) + 1) (by omega) (by omega)
          have hc : cutSl 1 (some 1) none (some (ts.map V.str)) = some (some ((ts.map V.str).drop 1)) := cutSl_from (fun y hy => by obtain ⟨s, rfl, _⟩ := hw3 y hy; rfl) (by omega) (by omega)
          rw [← List.map_drop] at hc
          have bad : ∀ s : Vs, gload_L0 (0, [.v (.sl (some xs)), .v (.int .i64 xs.length), .v (.int .i64 i), .m (encG m)]) = some (.inr s) → (∃ n e : Int, s = (0, [.v (.pt none), .v (.int .i64 n), .v (.int .i64 e)]) ∧ e ≠ 0) → (∃ s', gload_L0 (0, [.v (.sl (some xs)), .v (.int .i64 xs.length), .v (.int .i64 i), .m (encG m)]) = some (.inl s') ∧ (∃ i : Nat, ∃ m : List ((Str × Str) × Str), i ≤ slLen (some xs) ∧ m.length ≤ i ∧ s' = (0, [.v (.sl (some xs)), .v (.int .i64 (slLen (some xs))), .v (.int .i64 i), .m (encG m)])) ∧ (match hV s'.2 2 with | .int _ k => ((slLen (some xs) : Int) - k).toNat | _ => 0) < (match hV ((0, [.v (.sl (some xs)), .v (.int .i64 (slLen (some xs))), .v (.int .i64 i), .m (encG m)]) : Vs).2 2 with | .int _ k => ((slLen (some xs) : Int) - k).toNat | _ => 0)) ∨ ∃ r, gload_L0 (0, [.v (.sl (some xs)), .v (.int .i64 xs.length), .v (.int .i64 i), .m (encG m)]) = some (.inr r) ∧ ((∃ m : List ((Str × Str) × Str), r = (1, [.m (encG m)])) ∨ ∃ n e : Int, r = (0, [.v (.pt none), .v (.int .i64 n), .v (.int .i64 e)]) ∧ e ≠ 0) := fun s h1 h2 => .inr ⟨s, h1, .inr h2⟩
          have bad2 : ∃ n e : Int, ((0, [.v (.pt none), .v (.int .i64 k), .v (.int .i64 2)]) : Vs) = (0, [.v (.pt none), .v (.int .i64 n), .v (.int .i64 e)]) ∧ e ≠ 0 := ⟨_, _, rfl, by omega⟩
          by_cases h3 : (ts.drop 1).length = 3
          · obtain ⟨t0, a, b, c, rfl⟩ : ∃ t0 a b c, ts = [t0, a, b, c] := by
              match ts, h3 with
              | [t0, a, b, c], _ => exact ⟨t0, a, b, c, rfl⟩
            have ha := hts a (by simp)
            have hb := hts b (by simp)
            have hcc := hts c (by simp)
            obtain ⟨ga, hga⟩ := gof_some a low (by omega) (by decide)
            obtain ⟨gb, hgb⟩ := gof_some b lowd (by omega) (by decide)
            obtain ⟨gc, hgc⟩ := gof_some c lowd (by omega) (by decide)
            unfold low at hga
            unfold lowd at hgb hgc
            simp only [List.drop_succ_cons, List.drop_zero, List.map_cons, List.map_nil] at hc
            have base : gload_L0 (0, [.v (.sl (some xs)), .v (.int .i64 xs.length), .v (.int .i64 i), .m (encG m)]) = gload_L0 (0, [.v (.sl (some xs)), .v (.int .i64 xs.length), .v (.int .i64 i), .m (encG m)]) := rfl
            have i0 : idxL [V.str a, .str b, .str c] 0 = some (.str a) := rfl
            have i1 : idxL [V.str a, .str b, .str c] 1 = some (.str b) := rfl
            have i2 : idxL [V.str a, .str b, .str c] 2 = some (.str c) := rfl
            have hs3 : slLen (some [V.str a, .str b, .str c]) = 3 := rfl
            have hxs : ((xs.length : Nat) : Int) = ((slLen (some xs) : Nat) : Int) := rfl
            have hfit : fits ((encG m).length + 1) = true := by rw [encM_len]; unfold fits lim; exact decide_eq_true (by omega)
            cases ga with
            | false => exact bad (0, [.v (.pt none), .v (.int .i64 k), .v (.int .i64 2)]) (by simp [gload_L0, sel, hV, hM, hlt, e1, hc, hs3, i0, hga]) bad2
            | true =>
            by_cases hl2 : (a.length : Int) < 2
            · exact bad (0, [.v (.pt none), .v (.int .i64 k), .v (.int .i64 2)]) (by simp [gload_L0, sel, hV, hM, hlt, e1, hc, hs3, i0, hga, hl2]) bad2
            · by_cases hl3 : (3 : Int) < (a.length : Int)
              · exact bad (0, [.v (.pt none), .v (.int .i64 k), .v (.int .i64 2)]) (by simp [gload_L0, sel, hV, hM, hlt, e1, hc, hs3, i0, hga, hl2, hl3]) bad2
              · cases gb with
                | false => exact bad (0, [.v (.pt none), .v (.int .i64 k), .v (.int .i64 2)]) (by simp [gload_L0, sel, hV, hM, hlt, e1, hc, hs3, i0, i1, hga, hl2, hl3, hgb]) bad2
                | true =>
                cases gc with
                | false => exact bad (0, [.v (.pt none), .v (.int .i64 k), .v (.int .i64 2)]) (by simp [gload_L0, sel, hV, hM, hlt, e1, hc, hs3, i0, i1, i2, hga, hl2, hl3, hgb, hgc]) bad2
                | true =>
                cases hg : getM (a, b) m with
                | none =>
                  refine .inl ⟨(0, [.v (.sl (some xs)), .v (.int .i64 (slLen (some xs))), .v (.int .i64 ((i + 1 : Nat) : Int)), .m (encG (putM (a, b) c m))]), by simp [gload_L0, sel, hV, hM, hlt, e1, hc, hs3, i0, i1, i2, hga, hl2, hl3, hgb, hgc, look2, hg, hfit, put2, hwi, hsl], ⟨i + 1, _, by rw [hsl]; omega, by have := putM_len (a, b) c m; omega, rfl⟩, ?_⟩
                  simp only [hV, List.getD_cons_succ, List.getD_cons_zero, hsl]; omega
                | some y =>
                  by_cases hy : y = []
                  · refine .inl ⟨(0, [.v (.sl (some xs)), .v (.int .i64 (slLen (some xs))), .v (.int .i64 ((i + 1 : Nat) : Int)), .m (encG (putM (a, b) c m))]), by simp [gload_L0, sel, hV, hM, hlt, e1, hc, hs3, i0, i1, i2, hga, hl2, hl3, hgb, hgc, look2, hg, hy, hfit, put2, hwi, hsl], ⟨i + 1, _, by rw [hsl]; omega, by have := putM_len (a, b) c m; omega, rfl⟩, ?_⟩
                    simp only [hV, List.getD_cons_succ, List.getD_cons_zero, hsl]; omega
                  · have hyb : y.isEmpty = false := by cases y <;> simp_all
                    exact bad (0, [.v (.pt none), .v (.int .i64 k), .v (.int .i64 10)]) (by simp [gload_L0, sel, hV, hM, hlt, e1, hc, hs3, i0, i1, i2, hga, hl2, hl3, hgb, hgc, look2, hg, hyb]) ⟨_, _, rfl, by omega⟩
          · have h3' : ¬ (slLen (some ((ts.drop 1).map V.str)) = 3) := by
              unfold slLen; simpa using h3
            have h3b : (((slLen (some ((ts.drop 1).map V.str)) : Nat) : Int) != 3) = true := by
              simp only [bne_iff_ne, ne_eq]; omega
            clear h3'
            generalize (ts.drop 1).map V.str = w3 at hc h3b
            exact bad (0, [.v (.pt none), .v (.int .i64 k), .v (.int .i64 2)]) (by simp only [gload_L0, sel, hV, hM, List.getD_cons_zero, List.getD_cons_succ, asSl_sl, asInt_int, Option.bind_some, Option.getD_some]; simp [hlt, e1, hc, h3b]) bad2
      · exact .inr ⟨(1, [.m (encG m)]), by simp [gload_L0, sel, hV, hM, hlt], .inl ⟨m, rfl⟩⟩) FU _ ⟨0, [], Nat.zero_le _, Nat.le_refl _, rfl⟩ (by simp only [hV, FU, List.getD_cons_succ, List.getD_cons_zero]; omega)
  have h1 : loopK gload_L0 FU (0, [.v (.sl l), .v (.int .i64 (slLen l)), .v (.int .i64 0), .m []]) = some r := h1
  unfold gload
  rw [q1]
  rcases h2 with ⟨m, rfl⟩ | ⟨n, e, rfl, he⟩
  · have hf : frzE (encG m) = some (encF key2 V.str m) := frzE_enc m
    exact ⟨(some [.mp (some (encF key2 V.str m))], 0, 0), by simp [h1, sel, hM, hf], .inl ⟨m, rfl⟩⟩
  · exact ⟨(none, n, e), by simp [h1, sel, hV], .inr ⟨n, e, rfl, he⟩⟩

theorem gatom_some (m : List ((Str × Str) × Str)) (lang p name : Str) (k : Int) : ∃ s, gatom (some [.mp (some (encF key2 V.str m))]) lang p name k = some s ∧ s = ((getM (lang, name) m).getD []) := by
  have hl : lookM ⟨true, [.s, .s]⟩ (.agg [.str lang, .str name]) (some (encF key2 V.str m)) = some ((getM (lang, name) m).map V.str) := lookM_enc key2_eq (lang, name) m
  refine ⟨_, ?_, rfl⟩
  cases hg : getM (lang, name) m <;> simp [gatom, hl, hg]

theorem awake23_true : awake23 = some true := by kernel_rfl

theorem gname_true {o : Option (List V)} (h : RowsT big big big o) (lang p name : Str) (k : Int) (p' : Str) (k' : Int) : gname o lang p name k p' k' = some true := by
  obtain ⟨b, h1, h2⟩ := heavy_some h
  unfold gname
  rw [awake23_true]
  simp only [Option.bind_some, h1]
  cases b with
  | true => rfl
  | false =>
    obtain ⟨r, h3, h4⟩ := gload_some (h2 rfl)
    rw [h3]
    rcases h4 with ⟨m, rfl⟩ | ⟨n, e, rfl, he⟩
    · obtain ⟨s1, k1, k2⟩ := gatom_some m lang p name k
      obtain ⟨s2, k3, k4⟩ := gatom_some m lang p' name k'
      simp [k1, k3, k2, k4]
    · have : (e != 0) = true := by simpa using he
      simp [this]
end Go.Proofs.YtbppinniokmdnaaDoor.gd
