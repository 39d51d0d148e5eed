/- Plain laws: the functions of regions answer. -/
import Derived.Test.YtbppinniokmdnaaDoorCuGdQ
import Derived.Test.YtbppinniokmdnaaDoorCuGdN
import Derived.Test.YtbppinniokmdnaaDoorCuGdX
namespace Go.Proofs.YtbppinniokmdnaaDoor.gd
open Go Go.Ev
set_option linter.unusedSimpArgs false

theorem rcutLeft_eq : rcutLeft = cutLeft := rfl
theorem rcutRight_eq : rcutRight = cutRight := rfl

theorem rof_some (s set : List UInt8) (a b : Int) (hb : b ≤ 1000000) (hl : set.length ≤ 1000) : ∃ r, rof s set a b = some r := by
  unfold rof
  rw [rcutLeft_eq, rcutRight_eq]
  by_cases h1 : a ≤ (s.length : Int)
  · by_cases h2 : (s.length : Int) ≤ b
    · obtain ⟨r, h3, h4⟩ := cutLeft_some s set (by omega) hl
      obtain ⟨q, h5⟩ := cutRight_some r set (by omega) hl
      exact ⟨q == [], by simp [h1, h2, h3, h5]⟩
    · exact ⟨false, by simp [h1, h2]⟩
  · exact ⟨false, by simp [h1]⟩

theorem rplace_some (s : List UInt8) : ∃ b, rplace s = some b := by
  obtain ⟨a, h1⟩ := rof_some s [65, 66, 67, 68, 69, 70, 71, 72, 73, 74, 75, 76, 77, 78, 79, 80, 81, 82, 83, 84, 85, 86, 87, 88, 89, 90] 2 2 (by omega) (by decide)
  obtain ⟨b, h2⟩ := rof_some s [48, 49, 50, 51, 52, 53, 54, 55, 56, 57] 3 3 (by omega) (by decide)
  unfold rplace
  rw [h1]
  cases a
  · exact ⟨b, by simp [h2]⟩
  · exact ⟨true, by simp⟩
noncomputable def pl (s : Str) : Bool := (rplace s).getD false
theorem rplace_pl (s : Str) : rplace s = some (pl s) := by
  obtain ⟨b, h⟩ := rplace_some s
  unfold pl; rw [h]; rfl
noncomputable def goes (s : Str) : Bool := pl s && !(s == [48, 48, 49])
theorem rplace_nil : goes [] = false := by
  have : rplace [] = some false := by kernel_rfl
  unfold goes pl; rw [this]; rfl

/-! ### slices.Contains -/
theorem scont_strs (ts : List Str) (hl : ts.length ≤ 1000000000) (s : Str) : scont (some (ts.map V.str)) s = some (decide (s ∈ ts)) := by
  have hlen : slLen (some (ts.map V.str)) = ts.length := by simp [slLen]
  obtain ⟨r, h1, h2⟩ := loopK_inv (body := sidx_L0) (fun v => ∃ i : Nat, i ≤ ts.length ∧ (∀ q, q < i → ts[q]? ≠ some s) ∧ v = (0, [.v (.sl (some (ts.map V.str))), .v (.str s), .v (.int .i64 ts.length), .v (.int .i64 i)]))
    (fun v => match hV v.2 3 with | .int _ k => (ts.length - k).toNat | _ => 0) (fun r => (∃ i : Nat, r = (0, [.v (.int .i64 i)]) ∧ s ∈ ts) ∨ r = (1, []) ∧ s ∉ ts) (fun v ⟨i, hi, hq, hv⟩ => by
      subst hv
      by_cases hlt : i < ts.length
      · obtain ⟨x, e1, e2, e3⟩ := idxL_lt (xs := ts.map V.str) (n := (i : Int)) (by omega) (by simp; omega)
        rw [Int.toNat_natCast, List.getElem?_map] at e3
        cases ht : ts[i]? with
        | none => rw [ht] at e3; cases e3
        | some t =>
          rw [ht] at e3
          obtain rfl : V.str t = x := Option.some.inj e3
          by_cases hs : s = t
          · subst hs
            exact .inr ⟨(0, [.v (.int .i64 i)]), by simp [sidx_L0, sel, hV, hlt, e1], .inl ⟨i, rfl, List.mem_of_getElem? ht⟩⟩
          · have hw := w64 (x := (i : Int) + 1) (by omega) (by omega)
            have hsb : (s == t) = false := by simpa using hs
            refine .inl ⟨(0, [.v (.sl (some (ts.map V.str))), .v (.str s), .v (.int .i64 ts.length), .v (.int .i64 ((i + 1 : Nat) : Int))]), by simp [sidx_L0, sel, hV, hlt, e1, hsb, hw], ⟨i + 1, hlt, fun q hq' => ?_, rfl⟩, ?_⟩
            · rcases Nat.lt_or_ge q i with h' | h'
              · exact hq q h'
              · have : q = i := by omega
                subst this
                rw [ht]; exact fun e => hs (Option.some.inj e).symm
            · simp only [hV, List.getD_cons_succ, List.getD_cons_zero]; omega
      · refine .inr ⟨(1, []), by simp [sidx_L0, sel, hV, hlt], .inr ⟨rfl, fun hm => ?_⟩⟩
        obtain ⟨q, hq1, hq2⟩ := List.getElem_of_mem hm
        exact hq q (by omega) (by rw [List.getElem?_eq_getElem hq1, hq2])) FU _ ⟨0, Nat.zero_le _, fun q h => by omega, rfl⟩ (by simp only [hV, FU, List.getD_cons_succ, List.getD_cons_zero]; omega)
  have h1 : loopK sidx_L0 FU (0, [.v (.sl (some (ts.map V.str))), .v (.str s), .v (.int .i64 ((slLen (some (ts.map V.str)) : Nat) : Int)), .v (.int .i64 0)]) = some r := by rw [hlen]; exact h1
  unfold scont sidx
  rw [h1]
  rcases h2 with ⟨i, rfl, hm⟩ | ⟨rfl, hm⟩
  · simp [sel, hV, hm]
  · simp [sel, hm]

/-! ### Chain -/
theorem str_eq (a b : Str) : keyEq ⟨false, [.s]⟩ (V.str a) (V.str b) = some (decide (a = b)) := by
  have : keyEq ⟨false, [.s]⟩ (V.str a) (V.str b) = eqL [.s] [.str a] [.str b] := rfl
  rw [this]
  simp only [eqL, eqF]
  by_cases h : a = b
  · simp [h]
  · have : (a == b) = false := by simpa using h
    simp [h, this]
abbrev encP (m : List (Str × Str)) : List (V × T2) := encM V.str V.str m
theorem lookP (a : Str) (m : List (Str × Str)) : lookE ⟨false, [.s]⟩ (.str a) (encP m) = some ((getM a m).map V.str) := lookE_enc str_eq a m
theorem putP (a x : Str) (m : List (Str × Str)) : putE ⟨false, [.s]⟩ (.str a) (.a (.v (.str x))) (encP m) = some (encP (putM a x m)) := putE_enc str_eq a x m
theorem lookF (a : Str) (m : List (Str × Str)) : lookM ⟨false, [.s]⟩ (.str a) (some (encF V.str V.str m)) = some ((getM a m).map V.str) := lookM_enc str_eq a m
abbrev Chn (m : List (Str × Str)) := Ch goes ([] : Str) m
abbrev nxt (m : List (Str × Str)) (s : Str) : Str := nxt1 ([] : Str) m s
theorem nxt_get (s : Str) (m : List (Str × Str)) : asStr? (((getM s m).map V.str).getD (.str [])) = some (nxt m s) := by
  unfold nxt nxt1
  cases getM s m <;> rfl
theorem nxt_get' (s : Str) (m : List (Str × Str)) : ((getM s m).map V.str).getD (.str []) = .str (nxt m s) := by
  unfold nxt nxt1
  cases getM s m <;> rfl
/-- A world. -/
abbrev W2 (m lk : List (Str × Str)) : Option (List V) := some [.mp (some (encF V.str V.str m)), .mp (some (encF V.str V.str lk))]

theorem rchain_ch {m : List (Str × Str)} {s : Str} {l : List Str} (lk : List (Str × Str)) (h : Chn m s l) (hl : l.length ≤ 1000000) : rchain (W2 m lk) s = some (some ((l ++ [[48, 48, 49]]).map V.str)) := by
  have key : ∀ (s : Str) (l : List Str), Chn m s l → ∀ (pre : List Str) (n : Nat), pre.length + l.length ≤ 1000000 → l.length + 1 ≤ n → loopK rchain_L0 n (1, [.v (.pt (W2 m lk)), .v (.str s), .l (pre.map V.str)]) = some (1, [.l ((pre ++ l).map V.str)]) := by
    intro s l h
    induction h with
    | @stop s h =>
      intro pre n _ hn
      obtain ⟨n, rfl⟩ : ∃ k, n = k + 1 := ⟨n - 1, by omega⟩
      unfold goes at h
      cases hp : pl s with
      | false => simp [loopK, rchain_L0, sel, hV, hL, rplace_pl, hp]
      | true =>
        rw [hp] at h
        have h' : (s == [48, 48, 49]) = true := by simpa using h
        simp [loopK, rchain_L0, sel, hV, hL, rplace_pl, hp, h']
    | @step s l h1 h2 ih =>
      intro pre n hb hn
      obtain ⟨n, rfl⟩ : ∃ k, n = k + 1 := ⟨n - 1, by omega⟩
      simp only [List.length_cons] at hb hn
      have hf : fits (pre.length + 1) = true := by unfold fits lim; exact decide_eq_true (by omega)
      unfold goes at h1
      rw [Bool.and_eq_true] at h1
      have ih := ih (pre ++ [s]) n (by simp; omega) (by omega)
      have step : rchain_L0 (1, [.v (.pt (W2 m lk)), .v (.str s), .l (pre.map V.str)]) = some (.inl (1, [.v (.pt (W2 m lk)), .v (.str (nxt m s)), .l ((pre ++ [s]).map V.str)])) := by
        have hb2 : (s == [48, 48, 49]) = false := by simpa using h1.2
        simp [rchain_L0, sel, hV, hL, rplace_pl, h1.1, hb2, hf, lookF, nxt, nxt1, List.map_append]
      unfold loopK
      rw [step]
      simp only [Option.bind_some]
      rw [ih]
      simp
  unfold rchain
  obtain ⟨n, hn, hn2⟩ : ∃ n, FU = n + 1 ∧ 4000000 ≤ n := ⟨4294967295, rfl, by omega⟩
  rw [hn]
  cases h with
  | stop h =>
    unfold goes at h
    have h0 : loopK rchain_L0 (n + 1) (0, [.v (.pt (W2 m lk)), .v (.str s)]) = some (0, []) := by
      show (rchain_L0 (0, [.v (.pt (W2 m lk)), .v (.str s)])).bind _ = _
      cases hp : pl s with
      | false => simp [rchain_L0, sel, hV, rplace_pl, hp]
      | true =>
        rw [hp] at h
        have h' : (s == [48, 48, 49]) = true := by simpa using h
        simp [rchain_L0, sel, hV, rplace_pl, hp, h']
    rw [h0]; rfl
  | @step _ l h1 h2 =>
    unfold goes at h1
    rw [Bool.and_eq_true] at h1
    have hb2 : (s == [48, 48, 49]) = false := by simpa using h1.2
    simp only [List.length_cons] at hl
    have h0 : loopK rchain_L0 (n + 1) (0, [.v (.pt (W2 m lk)), .v (.str s)]) = some (1, [.l ((s :: l).map V.str)]) := by
      have step : rchain_L0 (0, [.v (.pt (W2 m lk)), .v (.str s)]) = some (.inl (1, [.v (.pt (W2 m lk)), .v (.str (nxt m s)), .l ([s].map V.str)])) := by
        simp [rchain_L0, sel, hV, rplace_pl, h1.1, hb2, lookF, nxt, nxt1]
      show (rchain_L0 (0, [.v (.pt (W2 m lk)), .v (.str s)])).bind _ = _
      rw [step]
      exact key _ _ h2 [s] n (by simp; omega) (by omega)
    have hf : fits (((s :: l).map V.str).length + 1) = true := by unfold fits lim; exact decide_eq_true (by simp; omega)
    rw [h0]
    simp only [Option.bind_some, sel, hL, List.getD_cons_zero, hf, Bool.and_self, chk_true]
    simp

/-! ### Load -/
abbrev w001 : Str := [48, 48, 49]
theorem rload2_ch {m : List (Str × Str)} {s : Str} {l : List Str} (E : List (V × T2)) (line : Int) (w : Option (List V)) (h : Chn m s l) (hl : l.length ≤ 1000000) :
    loopK rload_L2 FU (0, [.v (.str s), .m (encP m), .m E, .v (.int .i64 line), .v (.sl w)]) = some (if l = [] then (0, [.m (encP m), .m E, .v (.int .i64 line), .v (.sl w)]) else (1, [.m (encP m), .m E, .v (.int .i64 line), .v (.sl w), .l (l.map V.str)])) := by
  have key : ∀ (s : Str) (l : List Str), Chn m s l → ∀ (pre : List Str) (n : Nat), pre.length + l.length ≤ 1000000 → l.length + 1 ≤ n → loopK rload_L2 n (1, [.v (.str s), .m (encP m), .m E, .v (.int .i64 line), .v (.sl w), .l (pre.map V.str)]) = some (1, [.m (encP m), .m E, .v (.int .i64 line), .v (.sl w), .l ((pre ++ l).map V.str)]) := by
    intro s l h
    induction h with
    | @stop s h =>
      intro pre n _ hn
      obtain ⟨n, rfl⟩ : ∃ k, n = k + 1 := ⟨n - 1, by omega⟩
      unfold goes at h
      cases hp : pl s with
      | false => simp [loopK, rload_L2, sel, hV, hL, hM, rplace_pl, hp]
      | true =>
        rw [hp] at h
        have h' : (s == [48, 48, 49]) = true := by simpa using h
        simp [loopK, rload_L2, sel, hV, hL, hM, rplace_pl, hp, h']
    | @step s l h1 h2 ih =>
      intro pre n hb hn
      obtain ⟨n, rfl⟩ : ∃ k, n = k + 1 := ⟨n - 1, by omega⟩
      simp only [List.length_cons] at hb hn
      have hf : fits (pre.length + 1) = true := by unfold fits lim; exact decide_eq_true (by omega)
      unfold goes at h1
      rw [Bool.and_eq_true] at h1
      have ih := ih (pre ++ [s]) n (by simp; omega) (by omega)
      have step : rload_L2 (1, [.v (.str s), .m (encP m), .m E, .v (.int .i64 line), .v (.sl w), .l (pre.map V.str)]) = some (.inl (1, [.v (.str (nxt m s)), .m (encP m), .m E, .v (.int .i64 line), .v (.sl w), .l ((pre ++ [s]).map V.str)])) := by
        have hb2 : (s == [48, 48, 49]) = false := by simpa using h1.2
        simp [rload_L2, sel, hV, hL, hM, rplace_pl, h1.1, hb2, hf, lookP, nxt, nxt1, List.map_append]
      unfold loopK
      rw [step]
      simp only [Option.bind_some]
      rw [ih]
      simp
  obtain ⟨n, hn, hn2⟩ : ∃ n, FU = n + 1 ∧ 4000000 ≤ n := ⟨4294967295, rfl, by omega⟩
  rw [hn]
  show (rload_L2 (0, [.v (.str s), .m (encP m), .m E, .v (.int .i64 line), .v (.sl w)])).bind _ = _
  cases h with
  | stop h =>
    unfold goes at h
    cases hp : pl s with
    | false => simp [rload_L2, sel, hV, hM, rplace_pl, hp]
    | true =>
      rw [hp] at h
      have h' : (s == [48, 48, 49]) = true := by simpa using h
      simp [rload_L2, sel, hV, hM, rplace_pl, hp, h']
  | @step _ l h1 h2 =>
    unfold goes at h1
    rw [Bool.and_eq_true] at h1
    have hb2 : (s == [48, 48, 49]) = false := by simpa using h1.2
    simp only [List.length_cons] at hl
    have step : rload_L2 (0, [.v (.str s), .m (encP m), .m E, .v (.int .i64 line), .v (.sl w)]) = some (.inl (1, [.v (.str (nxt m s)), .m (encP m), .m E, .v (.int .i64 line), .v (.sl w), .l ([s].map V.str)])) := by
      simp [rload_L2, sel, hV, hM, rplace_pl, h1.1, hb2, lookP, nxt, nxt1]
    rw [step, if_neg (by simp)]
    exact key _ _ h2 [s] n (by simp; omega) (by omega)

def acyc (m : List (Str × Str)) : Prop := ∀ s, ∃ l, Chn m s l
theorem acyc.ch {m : List (Str × Str)} (h : acyc m) (hm : m.length ≤ 100000) (s : Str) : ∃ l, Chn m s l ∧ l.length ≤ 1000000 := by
  obtain ⟨l, hl⟩ := h s
  exact ⟨l, hl, by have := hl.len rplace_nil; omega⟩

theorem rload1_some {p : Str} {cs : List Str} (E : List (V × T2)) (line : Int) (w : Option (List V)) {m0 : List (Str × Str)} (h0 : acyc m0) (hb : m0.length + cs.length ≤ 100000) :
    ∃ r, loopK rload_L1 FU (0, [.v (.sl (some ((p :: cs).map V.str))), .v (.sl (some (cs.map V.str))), .v (.int .i64 cs.length), .v (.int .i64 0), .m (encP m0), .m E, .v (.int .i64 line), .v (.sl w)]) = some r ∧
      ((∃ m : List (Str × Str), acyc m ∧ m.length ≤ m0.length + cs.length ∧ r = (1, [.m (encP m), .m E, .v (.int .i64 line), .v (.sl w)])) ∨ ∃ (m : List (Str × Str)) (e : Int), e ≠ 0 ∧ r = (0, [.v (.int .i64 e), .m (encP m), .m E, .v (.int .i64 line), .v (.sl w)])) := by
  refine loopK_inv (body := rload_L1) (fun v => ∃ k : Nat, ∃ m : List (Str × Str), k ≤ cs.length ∧ acyc m ∧ m.length ≤ m0.length + k ∧ v = (0, [.v (.sl (some ((p :: cs).map V.str))), .v (.sl (some (cs.map V.str))), .v (.int .i64 cs.length), .v (.int .i64 k), .m (encP m), .m E, .v (.int .i64 line), .v (.sl w)]))
    (fun v => match hV v.2 3 with | .int _ k => (cs.length - k).toNat | _ => 0) _ (fun v ⟨k, m, hk, ha, hm, hv⟩ => ?_) FU _ ⟨0, m0, Nat.zero_le _, h0, Nat.le_refl _, rfl⟩ (by simp only [hV, FU, List.getD_cons_succ, List.getD_cons_zero]; omega)
  subst hv
  by_cases hlt : k < cs.length
  · obtain ⟨x, e1, e2, e3⟩ := idxL_lt (xs := cs.map V.str) (n := (k : Int)) (by omega) (by simp; omega)
    rw [Int.toNat_natCast, List.getElem?_map, List.getElem?_eq_getElem hlt] at e3
    obtain rfl : V.str cs[k] = x := Option.some.inj e3
    generalize cs[k] = c at e1 e2 e3
    have i0 : idxL (V.str p :: cs.map V.str) 0 = some (.str p) := rfl
    have hw := w64 (x := (k : Int) + 1) (by omega) (by omega)
    cases hc : (nxt m c == []) with
    | false => exact .inr ⟨(0, [.v (.int .i64 10), .m (encP m), .m E, .v (.int .i64 line), .v (.sl w)]), by
        unfold nxt nxt1 at hc
        have hce : ((getM c m).getD []).isEmpty = false := by
          have hc : ¬ (getM c m).getD [] = [] := by simpa using hc
          cases he : (getM c m).getD [] with
          | nil => exact absurd he hc
          | cons a b => rfl
        simp [rload_L1, sel, hV, hM, hlt, e1, lookP, hce], .inr ⟨m, 10, by omega, rfl⟩⟩
    | true =>
      obtain ⟨l, hl, hlen⟩ := ha.ch (by omega) p
      have h2 := rload2_ch E line w hl hlen
      unfold nxt nxt1 at hc
      have hc' : (getM c m).getD [] = [] := by simpa using hc
      have hfm : fits (m.length + 1) = true := by unfold fits lim; exact decide_eq_true (by omega)
      have hput : c ∉ l → ∃ s' : Vs, Sum.inl (β := Vs) s' = .inl (0, [.v (.sl (some ((p :: cs).map V.str))), .v (.sl (some (cs.map V.str))), .v (.int .i64 cs.length), .v (.int .i64 ((k + 1 : Nat) : Int)), .m (encP (putM c p m)), .m E, .v (.int .i64 line), .v (.sl w)]) ∧ (∃ k : Nat, ∃ m : List (Str × Str), k ≤ cs.length ∧ acyc m ∧ m.length ≤ m0.length + k ∧ s' = (0, [.v (.sl (some ((p :: cs).map V.str))), .v (.sl (some (cs.map V.str))), .v (.int .i64 cs.length), .v (.int .i64 k), .m (encP m), .m E, .v (.int .i64 line), .v (.sl w)])) := by
        intro hcl
        refine ⟨_, rfl, k + 1, putM c p m, hlt, fun s => ?_, ?_, rfl⟩
        · obtain ⟨ls, hs⟩ := ha s
          exact hl.put hcl hs
        · have := putM_len c p m; omega
      cases hln : l with
      | nil =>
        subst hln
        rw [if_pos rfl] at h2
        have hsc := scont_strs [w001] (by simp) c
        by_cases hcm : c ∈ [w001]
        · exact .inr ⟨(0, [.v (.int .i64 7), .m (encP m), .m E, .v (.int .i64 line), .v (.sl w)]), by
            rw [decide_eq_true hcm] at hsc
            simp only [List.map_cons, List.map_nil] at hsc
            simp [rload_L1, sel, hV, hM, hlt, e1, lookP, hc', i0, h2, hsc], .inr ⟨m, 7, by omega, rfl⟩⟩
        · obtain ⟨s', hs1, hs2⟩ := hput (by simp)
          cases hs1
          refine .inl ⟨_, ?_, hs2, ?_⟩
          · rw [decide_eq_false hcm] at hsc
            simp only [List.map_cons, List.map_nil] at hsc
            simp [rload_L1, sel, hV, hM, hlt, e1, lookP, hc', i0, h2, hsc, hfm, encM_len, putP, hw]
          · simp only [hV, List.getD_cons_succ, List.getD_cons_zero]; omega
      | cons a l2 =>
        rw [if_neg (by rw [hln]; simp)] at h2
        have hsc := scont_strs (l ++ [w001]) (by simp; omega) c
        rw [List.map_append] at hsc
        have hfl : fits (l.length + 1) = true := by unfold fits lim; exact decide_eq_true (by omega)
        by_cases hcm : c ∈ l ++ [w001]
        · exact .inr ⟨(0, [.v (.int .i64 7), .m (encP m), .m E, .v (.int .i64 line), .v (.sl w)]), by
            rw [decide_eq_true hcm] at hsc
            simp only [List.map_cons, List.map_nil] at hsc
            simp [rload_L1, sel, hV, hM, hL, hlt, e1, lookP, hc', i0, h2, hsc, hfl], .inr ⟨m, 7, by omega, rfl⟩⟩
        · obtain ⟨s', hs1, hs2⟩ := hput (fun h => hcm (List.mem_append_left _ h))
          cases hs1
          refine .inl ⟨_, ?_, hs2, ?_⟩
          · rw [decide_eq_false hcm] at hsc
            simp only [List.map_cons, List.map_nil] at hsc
            simp [rload_L1, sel, hV, hM, hL, hlt, e1, lookP, hc', i0, h2, hsc, hfl, hfm, encM_len, putP, hw]
          · simp only [hV, List.getD_cons_succ, List.getD_cons_zero]; omega
  · exact .inr ⟨(1, [.m (encP m), .m E, .v (.int .i64 line), .v (.sl w)]), by simp [rload_L1, sel, hV, hM, hlt], .inl ⟨m, ha, by omega, rfl⟩⟩

theorem scof_some (ts : List Str) (hl : ts.length ≤ 1000000000) : ∃ b, scof (some (ts.map V.str)) = some b := by
  have hlen : slLen (some (ts.map V.str)) = ts.length := by simp [slLen]
  obtain ⟨r, h1, h2⟩ := loopK_inv (body := sixf_L0) (fun v => ∃ i : Nat, i ≤ ts.length ∧ v = (0, [.v (.sl (some (ts.map V.str))), .v (.int .i64 ts.length), .v (.int .i64 i)]))
    (fun v => match hV v.2 2 with | .int _ k => (ts.length - k).toNat | _ => 0) (fun r => (∃ i : Nat, r = (0, [.v (.int .i64 i)])) ∨ r = (1, [])) (fun v ⟨i, hi, hv⟩ => by
      subst hv
      by_cases hlt : i < ts.length
      · obtain ⟨x, e1, e2, e3⟩ := idxL_lt (xs := ts.map V.str) (n := (i : Int)) (by omega) (by simp; omega)
        obtain ⟨t, _, rfl⟩ := List.mem_map.1 e2
        have hr : rreg1 t = some (!pl t) := by unfold rreg1; rw [rplace_pl]; rfl
        have hw := w64 (x := (i : Int) + 1) (by omega) (by omega)
        cases hp : pl t with
        | false => exact .inr ⟨(0, [.v (.int .i64 i)]), by simp [sixf_L0, sel, hV, hlt, e1, hr, hp], .inl ⟨i, rfl⟩⟩
        | true => exact .inl ⟨(0, [.v (.sl (some (ts.map V.str))), .v (.int .i64 ts.length), .v (.int .i64 ((i + 1 : Nat) : Int))]), by simp [sixf_L0, sel, hV, hlt, e1, hr, hp, hw], ⟨i + 1, hlt, rfl⟩, by simp only [hV, List.getD_cons_succ, List.getD_cons_zero]; omega⟩
      · exact .inr ⟨(1, []), by simp [sixf_L0, sel, hV, hlt], .inr rfl⟩) FU _ ⟨0, Nat.zero_le _, rfl⟩ (by simp only [hV, FU, List.getD_cons_succ, List.getD_cons_zero]; omega)
  have h1 : loopK sixf_L0 FU (0, [.v (.sl (some (ts.map V.str))), .v (.int .i64 ((slLen (some (ts.map V.str)) : Nat) : Int)), .v (.int .i64 0)]) = some r := by rw [hlen]; exact h1
  unfold scof sixf
  rw [h1]
  rcases h2 with ⟨i, rfl⟩ | rfl
  · exact ⟨_, by simp [sel, hV]; rfl⟩
  · exact ⟨_, by simp [sel]; rfl⟩

theorem cut1 (t : Str) (ts : List Str) : cutSl 1 (some 1) none (some (V.str t :: ts.map V.str)) = some (some (ts.map V.str)) :=
  cutSl_from (xs := V.str t :: ts.map V.str) (n := 1) (fun y hy => by
    rw [← List.map_cons (f := V.str)] at hy
    obtain ⟨s, _, rfl⟩ := List.mem_map.1 hy
    rfl) (by omega) (by simp only [List.length_cons]; omega)

abbrev LSt (o : Option (List V)) (i : Nat) (m lk : List (Str × Str)) : Vs := (0, [.v (.sl o), .v (.int .i64 (slLen o)), .v (.int .i64 i), .m (encP m), .m (encP lk)])
abbrev LOut (n e : Int) : Vs := (0, [.v (.pt none), .v (.int .i64 n), .v (.int .i64 e)])
def LInv (o : Option (List V)) (v : Vs) : Prop := ∃ (i : Nat) (m lk : List (Str × Str)), i ≤ slLen o ∧ acyc m ∧ m.length ≤ 30 * i ∧ lk.length ≤ i ∧ v = LSt o i m lk
def LQ (r : Vs) : Prop := (∃ m lk : List (Str × Str), acyc m ∧ m.length ≤ 1800 ∧ r = (1, [.m (encP m), .m (encP lk)])) ∨ ∃ n e : Int, r = LOut n e ∧ e ≠ 0
theorem rload0_step {o : Option (List V)} (h : RowsT 60 30 120 o) (i : Nat) (m lk : List (Str × Str)) (hlt : i < slLen o) (ha : acyc m) (hm : m.length ≤ 30 * i) (hlk : lk.length ≤ i) :
    (∃ m' lk', acyc m' ∧ m'.length ≤ 30 * (i + 1) ∧ lk'.length ≤ i + 1 ∧ rload_L0 (LSt o i m lk) = some (.inl (LSt o (i + 1) m' lk'))) ∨ ∃ n e : Int, e ≠ 0 ∧ rload_L0 (LSt o i m lk) = some (.inr (LOut n e)) := by
  have hlen := h.len
  obtain ⟨j, w, e1, _, hw⟩ := h.get (k := (i : Int)) (by omega) (by omega)
  have hwi := w64 (x := (i : Int) + 1) (by omega) (by omega)
  have same : rload_L0 (LSt o i m lk) = some (.inl (LSt o (i + 1) m lk)) → (∃ m' lk', acyc m' ∧ m'.length ≤ 30 * (i + 1) ∧ lk'.length ≤ i + 1 ∧ rload_L0 (LSt o i m lk) = some (.inl (LSt o (i + 1) m' lk'))) ∨ ∃ n e : Int, e ≠ 0 ∧ rload_L0 (LSt o i m lk) = some (.inr (LOut n e)) :=
    fun h => .inl ⟨m, lk, ha, by omega, by omega, h⟩
  have bad : ∀ e : Int, e ≠ 0 → rload_L0 (LSt o i m lk) = some (.inr (LOut j e)) → (∃ m' lk', acyc m' ∧ m'.length ≤ 30 * (i + 1) ∧ lk'.length ≤ i + 1 ∧ rload_L0 (LSt o i m lk) = some (.inl (LSt o (i + 1) m' lk'))) ∨ ∃ n e : Int, e ≠ 0 ∧ rload_L0 (LSt o i m lk) = some (.inr (LOut n e)) :=
    fun e he h => .inr ⟨j, e, he, h⟩
  have hsn : slLen (none : Option (List V)) = 0 := rfl
  have hse : slLen (some ([] : List V)) = 0 := rfl
  cases w with
  | none => exact same (by simp [rload_L0, sel, hV, hM, hlt, e1, hsn, hwi])
  | some ws =>
    obtain ⟨ts, rfl, hts⟩ := strs_of (hw ws rfl).2
    have hl30 : ts.length ≤ 30 := by have := (hw _ rfl).1; simpa using this
    cases ts with
    | nil =>
      simp only [List.map_nil] at e1
      exact same (by simp [rload_L0, sel, hV, hM, hlt, e1, hse, hwi])
    | cons t ts =>
      simp only [List.length_cons] at hl30
      simp only [List.map_cons] at e1
      have hs : slLen (some (V.str t :: ts.map V.str)) = ts.length + 1 := by simp [slLen]
      have hs0 : ((((ts.length + 1 : Nat) : Int)) == 0) = false := by simp; omega
      have i0 : idxL (V.str t :: ts.map V.str) 0 = some (.str t) := rfl
      have hc := cut1 t ts
      by_cases hreg : t = [114, 101, 103, 105, 111, 110]
      · have hregb : (t == [114, 101, 103, 105, 111, 110]) = true := by simpa using hreg
        clear hregb
        subst hreg
        cases ts with
        | nil => exact bad 2 (by omega) (by simp only [List.map_nil] at e1 hs hs0 i0 hc; simp [rload_L0, sel, hV, hM, hlt, e1, hs, hs0, i0, hc, hse])
        | cons p cs =>
          simp only [List.length_cons] at hl30
          simp only [List.map_cons, List.length_cons] at e1 hs hs0 i0 hc
          have hs2 : slLen (some (V.str p :: cs.map V.str)) = cs.length + 1 := by simp [slLen]
          have hs00 : ((cs.length : Int) + 1 + 1 == 0) = false := by rw [beq_eq_false_iff_ne]; omega
          have hcs : slLen (some (cs.map V.str)) = cs.length := by simp [slLen]
          by_cases hcl : cs.length = 0
          · have hlt2 : ((cs.length : Int) + 1 < 2) := by omega
            exact bad 2 (by omega) (by simp [rload_L0, sel, hV, hM, hlt, e1, hs, hs0, hs00, i0, hc, hs2, hlt2])
          · have hlt2 : ¬ ((cs.length : Int) + 1 < 2) := by omega
            obtain ⟨b, hb⟩ := scof_some (p :: cs) (by simp; omega)
            simp only [List.map_cons] at hb
            cases b with
            | true => exact bad 2 (by omega) (by simp [rload_L0, sel, hV, hM, hlt, e1, hs, hs0, hs00, i0, hc, hs2, hlt2, hb])
            | false =>
              have hc2 := cut1 p cs
              have hsc := scont_strs cs (by omega) [48, 48, 49]
              by_cases hw1 : ([48, 48, 49] : Str) ∈ cs
              · rw [decide_eq_true hw1] at hsc
                exact bad 2 (by omega) (by simp [rload_L0, sel, hV, hM, hlt, e1, hs, hs0, hs00, i0, hc, hs2, hlt2, hb, hc2, hsc])
              · rw [decide_eq_false hw1] at hsc
                obtain ⟨r, h1, h2⟩ := rload1_some (p := p) (cs := cs) (encP lk) j (some (V.str [114, 101, 103, 105, 111, 110] :: V.str p :: cs.map V.str)) ha (by omega)
                simp only [List.map_cons] at h1
                have hsx : ∀ a : Str, slLen (some (V.str a :: V.str p :: cs.map V.str)) = cs.length + 1 + 1 := fun a => by simp [slLen]
                rcases h2 with ⟨m', ha', hm', rfl⟩ | ⟨m', e, he, rfl⟩
                · refine .inl ⟨m', lk, ha', by omega, by omega, ?_⟩
                  simp [rload_L0, sel, hV, hM, hlt, e1, hs, hs0, hs00, i0, hc, hs2, hlt2, hb, hc2, hsc, hcs, h1, hwi]
                · have heb : (e != 0) = true := by simpa using he
                  exact bad e he (by simp [rload_L0, sel, hV, hM, hlt, e1, hs, hs0, hs00, i0, hc, hs2, hlt2, hb, hc2, hsc, hcs, h1, heb])
      · have hregb : (t == [114, 101, 103, 105, 111, 110]) = false := by simpa using hreg
        by_cases hlik : t = [108, 105, 107, 101, 108, 121]
        · have hlikb : (t == [108, 105, 107, 101, 108, 121]) = true := by simpa using hlik
          clear hlikb
          subst hlik
          cases ts with
          | nil => exact bad 2 (by omega) (by simp only [List.map_nil] at e1 hs hs0 i0 hc; simp [rload_L0, sel, hV, hM, hlt, e1, hs, hs0, i0, hc, hse])
          | cons a cs =>
            cases cs with
            | nil =>
              simp only [List.map_cons, List.map_nil, List.length_cons] at e1 hs hs0 i0 hc
              have hs1 : slLen (some [V.str a]) = 1 := rfl
              exact bad 2 (by omega) (by simp [rload_L0, sel, hV, hM, hlt, e1, hs, hs0, i0, hc, hs1])
            | cons b cs =>
              simp only [List.map_cons, List.length_cons] at e1 hs hs0 i0 hc
              have hs2 : slLen (some (V.str a :: V.str b :: cs.map V.str)) = cs.length + 1 + 1 := by simp [slLen]
              have j0 : idxL (V.str a :: V.str b :: cs.map V.str) 0 = some (.str a) := rfl
              have j1 : idxL (V.str a :: V.str b :: cs.map V.str) 1 = some (.str b) := rfl
              by_cases hcl : cs.length = 0
              · have hne : (((cs.length : Int) + 1 + 1) == 2) = true := by simp; omega
                obtain ⟨q, hq⟩ := rof_some a [97, 98, 99, 100, 101, 102, 103, 104, 105, 106, 107, 108, 109, 110, 111, 112, 113, 114, 115, 116, 117, 118, 119, 120, 121, 122] 2 3 (by omega) (by decide)
                cases q with
                | false => exact bad 2 (by omega) (by simp [rload_L0, sel, hV, hM, hlt, e1, hs, hs0, i0, hc, hs2, hcl, j0, j1, hq])
                | true =>
                cases hp : pl b with
                | false => exact bad 2 (by omega) (by simp [rload_L0, sel, hV, hM, hlt, e1, hs, hs0, i0, hc, hs2, hcl, j0, j1, hq, rplace_pl, hp])
                | true =>
                have hfm : fits (lk.length + 1) = true := by unfold fits lim; exact decide_eq_true (by omega)
                cases hg : (getM a lk).getD [] with
                | nil =>
                  refine .inl ⟨m, putM a b lk, ha, by omega, by have := putM_len a b lk; omega, ?_⟩
                  simp [rload_L0, sel, hV, hM, hlt, e1, hs, hs0, i0, hc, hs2, hcl, j0, j1, hq, rplace_pl, hp, lookP, hg, hfm, encM_len, putP, hwi]
                | cons y ys => exact bad 10 (by omega) (by simp [rload_L0, sel, hV, hM, hlt, e1, hs, hs0, i0, hc, hs2, hcl, j0, j1, hq, rplace_pl, hp, lookP, hg])
              · have hne : ((cs.length : Int) + 1 + 1 != 2) = true := by simp only [bne_iff_ne, ne_eq]; omega
                have hs00 : ((cs.length : Int) + 1 + 1 + 1 == 0) = false := by rw [beq_eq_false_iff_ne]; omega
                exact bad 2 (by omega) (by simp [rload_L0, sel, hV, hM, hlt, e1, hs, hs0, hs00, i0, hc, hs2, hne])
        · have hlikb : (t == [108, 105, 107, 101, 108, 121]) = false := by simpa using hlik
          refine same ?_
          simp [rload_L0, sel, hV, hM, hlt, e1, hs, hs0, i0, hregb, hlikb, hwi]

theorem rload_some {o : Option (List V)} (h : RowsT 60 30 120 o) : ∃ r, rload o = some r ∧ ((∃ m lk, acyc m ∧ m.length ≤ 1800 ∧ r = (W2 m lk, 0, 0)) ∨ ∃ n e, r = (none, n, e) ∧ e ≠ 0) := by
  have hlen := h.len
  obtain ⟨r, h1, h2⟩ := loopK_inv (body := rload_L0) (LInv o) (fun v => match hV v.2 2 with | .int _ k => (slLen o - k).toNat | _ => 0) LQ (fun v hv => by
      obtain ⟨i, m, lk, hi, ha, hm, hlk, rfl⟩ := hv
      by_cases hlt : i < slLen o
      · rcases rload0_step h i m lk hlt ha hm hlk with ⟨m', lk', k1, k2, k3, k4⟩ | ⟨n, e, he, k4⟩
        · exact .inl ⟨_, k4, ⟨i + 1, m', lk', hlt, k1, k2, k3, rfl⟩, by simp only [LSt, hV, List.getD_cons_succ, List.getD_cons_zero]; omega⟩
        · exact .inr ⟨_, k4, .inr ⟨n, e, rfl, he⟩⟩
      · exact .inr ⟨(1, [.m (encP m), .m (encP lk)]), by simp [rload_L0, sel, hV, hM, hlt], .inl ⟨m, lk, ha, by omega, rfl⟩⟩) FU _ ⟨0, [], [], Nat.zero_le _, fun s => Ch.nil rplace_nil s, Nat.le_refl _, Nat.le_refl _, rfl⟩ (by simp only [hV, FU, List.getD_cons_succ, List.getD_cons_zero]; omega)
  have h1 : loopK rload_L0 FU (0, [.v (.sl o), .v (.int .i64 (slLen o)), .v (.int .i64 0), .m [], .m []]) = some r := h1
  unfold rload
  rw [h1]
  rcases h2 with ⟨m, lk, ha, hm, rfl⟩ | ⟨n, e, rfl, he⟩
  · have hf : frzE (encP m) = some (encF V.str V.str m) := frzE_enc m
    have hf2 : frzE (encP lk) = some (encF V.str V.str lk) := frzE_enc lk
    exact ⟨(W2 m lk, 0, 0), by simp [sel, hM, hf, hf2], .inl ⟨m, lk, ha, hm, rfl⟩⟩
  · exact ⟨(none, n, e), by simp [sel, hV], .inr ⟨n, e, rfl, he⟩⟩

theorem rwithin_ch {m : List (Str × Str)} {s : Str} {l : List Str} (lk : List (Str × Str)) (h : Chn m s l) (hl : l.length ≤ 1000000) (b : Str) : rwithin (W2 m lk) s b = some (decide (b ∈ l ++ [w001])) := by
  unfold rwithin
  rw [rchain_ch lk h hl]
  simp only [Option.bind_some]
  rw [scont_strs _ (by simp; omega)]
  rfl
end Go.Proofs.YtbppinniokmdnaaDoor.gd
