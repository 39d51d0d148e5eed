/- The staged evaluator's operations answer as the evaluator's. -/
import Derived.Test.YtmlhdhndjgdoaaaDoorCuSt
namespace Go.Ev

section
variable {β : Type} {r : β}

theorem chk_some {c : Bool} {k : Option β} : chk c k = some r ↔ c = true ∧ k = some r := by
  unfold chk; cases c <;> simp

theorem cond_some {c : Bool} {x y : Option β} : cond c x y = some r ↔ (c = true ∧ x = some r) ∨ (c = false ∧ y = some r) := by
  cases c <;> simp

theorem dK_ok {t : Tk} {v : V} {K : V → Option β} (h : dK t v K = some r) : K v = some r := by
  cases t with
  | any => exact h
  | _ =>
    simp only [dK, Option.bind_eq_some_iff] at h
    obtain ⟨x, h1, h2⟩ := h
    cases v <;> simp [asBool?, asStr?, asSl?, asMp?, asPt?, asInt?] at h1
    first
      | (obtain ⟨rfl, rfl⟩ := h1; exact h2)
      | (subst h1; exact h2)

theorem dK_one {t : Tk} {v : V} {K : V → Option β} (h : dK t v K = some r) (ht : t = .any → v.one = true) : v.one = true := by
  cases t with
  | any => exact ht rfl
  | _ =>
    simp only [dK, Option.bind_eq_some_iff] at h
    obtain ⟨x, h1, h2⟩ := h
    cases v <;> simp [asBool?, asStr?, asSl?, asMp?, asPt?, asInt?] at h1 <;> rfl

theorem cells_one {v : V} (h : v.one = true) : v.cells = [v] := by
  cases v <;> first | rfl | (simp [V.one] at h)

theorem dL_ok {ts : List Tk} : ∀ {i : Nat} {vs : List V} {K : List V → Option β}, dL ts i vs K = some r → i + ts.length = vs.length → K (vs.drop i) = some r := by
  induction ts with
  | nil =>
    intro i vs K h hl
    simp only [dL] at h
    rw [List.drop_of_length_le (by simp at hl; omega)]
    exact h
  | cons t ts ih =>
    intro i vs K h hl
    simp only [dL] at h
    have h1 := dK_ok h
    have h2 := ih h1 (by simp at hl; omega)
    have hi : i < vs.length := by simp at hl; omega
    rw [List.drop_eq_getElem_cons hi]
    rw [List.getD_eq_getElem?_getD, List.getElem?_eq_getElem hi] at h2
    exact h2

theorem asAgg_some {n : Nat} {v : V} {cs : List V} (h : asAgg? n v = some cs) : v = .agg cs ∧ cs.length = n := by
  cases v <;> simp [asAgg?] at h
  obtain ⟨h1, rfl⟩ := h
  exact ⟨rfl, h1⟩

theorem d1_ok {t : T1} {v : V} {K : V → Option β} (h : d1 t v K = some r) : K v = some r := by
  cases t with
  | k t => exact dK_ok h
  | agg l =>
    simp only [d1, Option.bind_eq_some_iff] at h
    obtain ⟨cs, h1, h2⟩ := h
    obtain ⟨rfl, hl⟩ := asAgg_some h1
    exact dL_ok h2 (by omega)

theorem dL1_ok {ts : List T1} : ∀ {i : Nat} {vs : List V} {K : List V → Option β}, dL1 ts i vs K = some r → i + ts.length = vs.length → K (vs.drop i) = some r := by
  induction ts with
  | nil =>
    intro i vs K h hl
    simp only [dL1] at h
    rw [List.drop_of_length_le (by simp at hl; omega)]
    exact h
  | cons t ts ih =>
    intro i vs K h hl
    simp only [dL1] at h
    have h1 := d1_ok h
    have h2 := ih h1 (by simp at hl; omega)
    have hi : i < vs.length := by simp at hl; omega
    rw [List.drop_eq_getElem_cons hi]
    rw [List.getD_eq_getElem?_getD, List.getElem?_eq_getElem hi] at h2
    exact h2

theorem dTy_ok {t : Ty} {v : V} {K : V → Option β} (h : dTy t v K = some r) : K v = some r := by
  cases t with
  | any => exact h
  | t1 t => exact d1_ok h
  | ptr l =>
    simp only [dTy, Option.bind_eq_some_iff] at h
    obtain ⟨cs, h1, h2⟩ := h
    cases v using V.cs <;> simp [asPtr?] at h1
    obtain ⟨hl, rfl⟩ := h1
    exact dL_ok h2 (by omega)
  | tup l =>
    simp only [dTy, Option.bind_eq_some_iff] at h
    obtain ⟨cs, h1, h2⟩ := h
    cases v <;> simp [asTup?] at h1
    obtain ⟨hl, rfl⟩ := h1
    exact dL1_ok h2 (by omega)

theorem dEl_ok {t : T1} {v : V} {K : List V → Option β} (h : dEl t v K = some r) : K v.cells = some r := by
  cases t with
  | k t =>
    cases t with
    | any =>
      simp only [dEl, chk_some] at h
      rw [cells_one h.1]; exact h.2
    | _ =>
      simp only [dEl] at h
      have h1 := dK_ok h
      rw [cells_one (dK_one h (by simp))]
      exact h1
  | agg l =>
    simp only [dEl, Option.bind_eq_some_iff] at h
    obtain ⟨cs, h1, h2⟩ := h
    obtain ⟨rfl, hl⟩ := asAgg_some h1
    exact dL_ok h2 (by omega)

theorem dSV_ok {t : Ty} {sv : SV} {K : SV → Option β} (h : dSV t sv K = some r) : K sv = some r := by
  cases t with
  | any => exact h
  | _ =>
    cases sv with
    | a x =>
      cases x with
      | v v =>
        simp only [dSV] at h
        exact dTy_ok (K := fun v => K (.a (.v v))) h
      | _ => exact h
    | _ => exact h

theorem ptK_ok {l : List Tk} {o : Option (List V)} {K : List V → Option β} (h : ptK l o K = some r) : ∃ cs, o = some cs ∧ K cs = some r := by
  simp only [ptK, Option.bind_eq_some_iff] at h
  obtain ⟨cs, h1, h2⟩ := h
  cases o with
  | none => simp [asPtr?] at h1
  | some xs =>
    simp only [asPtr?] at h1
    split at h1
    · rename_i hl
      cases h1
      exact ⟨_, rfl, dL_ok h2 (by omega)⟩
    · cases h1

/-! ### What operations come to -/
theorem idxL_some {α : Type} {xs : List α} {n : Int} {x : α} (h : idxL xs n = some x) : ¬ n < 0 ∧ xs[n.toNat]? = some x := by
  unfold idxL at h
  split at h
  · cases h
  · rename_i hn; exact ⟨hn, h⟩

theorem asInt_opd {sv : SV} {k : IntKind} {n : Int} (h : sv = .a (.v (.int k n))) : asInt sv = some n := by rw [h]; rfl

theorem optI_some (fr : List SV) (o : Option SOpd) (x : Option Int) (d : Int) : optI fr o = some x → (match o with | none => some d | some l => asInt (opd fr l)) = some (x.getD d) := by
  intro h
  cases o with
  | none => simp only [optI, Option.some.injEq] at h; subst h; rfl
  | some l =>
    simp only [optI] at h
    split at h
    · rename_i k n hl
      cases h
      simp only
      rw [hl]; rfl
    · cases h

theorem bounds_of {fr : List SV} {lo hi : Option SOpd} {l h : Option Int} (h1 : optI fr lo = some l) (h2 : optI fr hi = some h) (len : Nat) : bounds fr lo hi len = bI l h len := by
  have e1 := optI_some fr lo l 0 h1
  have e2 := optI_some fr hi h (len : Int) h2
  unfold bounds bI
  cases lo with
  | none =>
    cases hi with
    | none => simp only [optI, Option.some.injEq] at h1 h2; subst h1 h2; rfl
    | some y => simp only [optI, Option.some.injEq] at h1; subst h1; simp only at e2; simp only [e2]; rfl
  | some x =>
    simp only at e1
    cases hi with
    | none => simp only [optI, Option.some.injEq] at h2; subst h2; simp only [e1]; rfl
    | some y => simp only at e2; simp only [e1, e2]

theorem cutL_some {α : Type} {lo hi : Option Int} {xs ys : List α} (h : cutL lo hi xs = some ys) : ∃ l k, bI lo hi xs.length = some (l, k) ∧ ys = (xs.drop l).take (k - l) := by
  unfold cutL at h
  split at h
  · rename_i l k hb; cases h; exact ⟨l, k, hb, rfl⟩
  · cases h

theorem elems_sl (os : Objs) (o : Option (List V)) : elems os (.a (.v (.sl o))) = some (o.getD []) := by cases o <;> rfl

theorem elemsK_some {os : Objs} {i : Nat} {K : List V → Option β} (h : elemsK os (.a (.own i)) K = some r) : ∃ xs, elems os (.a (.own i)) = some xs ∧ K xs = some r := by
  simp only [elemsK] at h
  split at h
  · rename_i e sz xs hi; exact ⟨xs, by simp only [elems, hi], h⟩
  · rename_i e sz xs hi; exact ⟨xs, by simp only [elems, hi], h⟩
  · cases h

theorem eqB_some {ks : List FK} : ∀ {a b : List V} {x : Bool}, eqB ks a b = some x → eqL ks a b = some x := by
  induction ks with
  | nil =>
    intro a b x h
    cases a <;> cases b <;> simp [eqB] at h
    subst h; rfl
  | cons k ks ih =>
    intro a b x h
    cases a with
    | nil => cases b <;> cases ks <;> simp [eqB] at h
    | cons y a =>
      cases b with
      | nil => cases ks <;> cases a <;> simp [eqB] at h
      | cons z b =>
        have gen : (match eqF k y z, eqB ks a b with | some x, some y => some (x && y) | _, _ => none) = some x → eqL (k :: ks) (y :: a) (z :: b) = some x := by
          intro h
          split at h
          · rename_i p q hp hq
            cases h
            simp only [eqL, hp]
            cases p with
            | false => rfl
            | true => simpa using ih hq
          · cases h
        cases ks with
        | cons k' ks => exact gen (by simp only [eqB] at h; exact h)
        | nil =>
          cases a with
          | cons y' a => exact gen (by simp only [eqB] at h; exact h)
          | nil =>
            cases b with
            | cons z' b => exact gen (by simp only [eqB] at h; exact h)
            | nil =>
              simp only [eqB] at h
              simp only [eqL, h]
              cases x <;> rfl

theorem ariK_ok {op : BinOp} {a b : V} {K : V → Option β} (h : ariK op a b K = some r) : ∃ v, ariV op a b = some v ∧ K v = some r := by
  unfold ariK at h
  split at h
  · rename_i k x k' y
    split at h
    · rw [chk_some] at h
      refine ⟨_, ?_, h.2⟩
      have : ¬ y < 0 := by simpa using h.1
      simp [ariV, shiftI, this]
    · rw [chk_some] at h
      refine ⟨_, ?_, h.2⟩
      have : ¬ y < 0 := by simpa using h.1
      simp [ariV, shiftI, this]
    · split at h
      · rename_i hk
        rw [chk_some] at h
        refine ⟨_, ?_, h.2⟩
        have : y ≠ 0 := by simpa using h.1
        simp [ariV, ariI, hk, this]
      · cases h
    · split at h
      · rename_i hk
        rw [chk_some] at h
        refine ⟨_, ?_, h.2⟩
        have : y ≠ 0 := by simpa using h.1
        simp [ariV, ariI, hk, this]
      · cases h
    · rename_i op' h1 h2 h3 h4
      split at h
      · rename_i hk
        split at h
        · rename_i v hv
          refine ⟨v, ?_, h⟩
          cases op <;> first | (exact absurd rfl h1) | (exact absurd rfl h2) | (simp only [ariV, hk, if_true]; rw [hk] at hv; exact hv)
        · cases h
      · cases h
  · rename_i s t
    split at h
    · rw [chk_some] at h
      refine ⟨_, ?_, h.2⟩
      have : s.length + t.length ≤ maxStr := by simpa using h.1
      simp [ariV, ariS, this]
    · split at h
      · rename_i v hv
        exact ⟨v, hv, h⟩
      · cases h
  · cases h

theorem eqK_ok {k : EqK} {x y : SV} {K : Bool → Option β} (h : eqK k x y K = some r) : ∃ b, eqV k x y = some b ∧ K b = some r := by
  unfold eqK at h
  split at h
  · split at h
    · rename_i kt _ _ a b
      split at h
      · rename_i p q hp hq
        split at h
        · rename_i b' hb
          refine ⟨b', ?_, h⟩
          simp only [eqV, keyEq, hp, hq]
          exact eqB_some hb
        · cases h
      · cases h
    · cases h
  · split at h
    · split at h
      · rename_i o
        rw [Option.bind_eq_some_iff] at h
        obtain ⟨b, h1, h2⟩ := h
        refine ⟨b, ?_, h2⟩
        cases o with
        | none => simpa [nilS, eqV] using h1
        | some xs => cases xs <;> simp [nilS] at h1; subst h1; rfl
      · exact ⟨_, rfl, h⟩
      · cases h
    · cases h
  · split at h
    · split at h
      · rename_i o
        refine ⟨_, ?_, h⟩
        cases o <;> rfl
      · exact ⟨_, rfl, h⟩
      · cases h
    · cases h
  · split at h
    · split at h
      · rename_i o
        refine ⟨_, ?_, h⟩
        cases o <;> rfl
      · exact ⟨_, rfl, h⟩
      · cases h
    · cases h
  · split at h
    · split at h
      · rename_i v
        rw [Option.bind_eq_some_iff] at h
        obtain ⟨b, h1, h2⟩ := h
        refine ⟨b, ?_, h2⟩
        cases v using V.cs <;> simp [nilI] at h1 <;> subst h1 <;> rfl
      · cases h
    · cases h
  · split at h
    · rename_i b hb; exact ⟨b, hb, h⟩
    · cases h

theorem appK_ok {mm : Bool} {e : TypeId} {sz : Nat} {os : Objs} {s : SV} {ys : List V} {K : SV → Objs → Option β} (h : appK mm e sz os s ys K = some r) : ∃ y, appendA mm e sz os s ys = some y ∧ K y.sv y.objs = some r := by
  unfold appK at h
  split at h
  · rw [cond_some] at h
    rcases h with ⟨h1, h2⟩ | ⟨h1, h2⟩
    · cases ys with
      | nil => exact ⟨⟨_, _⟩, rfl, h2⟩
      | cons y ys => simp at h1
    · cases ys with
      | nil => simp at h1
      | cons y ys =>
        rw [chk_some, Bool.and_eq_true] at h2
        obtain ⟨⟨q1, q2⟩, q3⟩ := h2
        refine ⟨⟨_, _⟩, ?_, q3⟩
        simp only [appendA]
        rw [if_pos ⟨q1, q2⟩]
  · split at h
    · rename_i hi
      split at h
      · rename_i hc
        rw [chk_some, Bool.and_eq_true] at h
        obtain ⟨⟨q1, q2⟩, q3⟩ := h
        refine ⟨⟨_, _⟩, ?_, q3⟩
        simp only [appendA, hi]
        rw [if_pos ⟨hc.1, hc.2, q1, q2⟩]
      · cases h
    · rename_i hi
      split at h
      · rename_i hc
        rw [chk_some, Bool.and_eq_true] at h
        obtain ⟨⟨q1, q2⟩, q3⟩ := h
        refine ⟨⟨_, _⟩, ?_, q3⟩
        simp only [appendA, hi]
        rw [if_pos ⟨hc.1, hc.2, q1, q2⟩]
      · cases h
    · cases h
  · cases h

theorem boxK_ok {n : Nat} {sv : SV} {K : List At → Option β} (h : boxK n sv K = some r) : ∃ cs, sv.cells = some cs ∧ cs.length = n ∧ cs.all At.one = true ∧ K cs = some r := by
  unfold boxK at h
  split at h
  · rename_i cs hcs
    split at h
    · rename_i hn
      rw [chk_some] at h
      exact ⟨cs, hcs, hn, h.1, h.2⟩
    · cases h
  · cases h

theorem lookM_ok {kt : KT} {k : V} {o : Option (List V)} {y : Option V} (h : lookM kt k o = some y) : (match o with | none => some none | some es => findV kt k es) = some y := by
  cases o <;> exact h
end
end Go.Ev
