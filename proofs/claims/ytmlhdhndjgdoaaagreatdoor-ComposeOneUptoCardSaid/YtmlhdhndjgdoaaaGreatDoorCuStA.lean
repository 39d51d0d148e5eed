/- Joined: CuStA CuStB CuStC. -/
import Derived.Test.YtmlhdhndjgdoaaaGreatDoorCuSt

/- The staged evaluator's operations answer as the evaluator's. -/
namespace Go.Ev

section
variable {β : Type} {r : β}

theorem chk_some {c : Bool} {k : Option β} : chk c k = some r ↔ c = true ∧ k = some r := by
  unfold chk; cases c <;> simp

theorem cond_some {c : Bool} {x y : Option β} : cond c x y = some r ↔ (c = true ∧ x = some r) ∨ (c = false ∧ y = some r) := by
  cases c <;> simp

theorem dK_ok {t : Tk} {v : V} {K : V → Option β} (h : dK t v K = some r) : K v = some r := by
  cases t with
  | any => exact h
  | _ =>
    simp only [dK, Option.bind_eq_some_iff] at h
    obtain ⟨x, h1, h2⟩ := h
    cases v <;> simp [asBool?, asStr?, asSl?, asMp?, asPt?, asInt?] at h1
    first
      | (obtain ⟨rfl, rfl⟩ := h1; exact h2)
      | (subst h1; exact h2)

theorem dK_one {t : Tk} {v : V} {K : V → Option β} (h : dK t v K = some r) (ht : t = .any → v.one = true) : v.one = true := by
  cases t with
  | any => exact ht rfl
  | _ =>
    simp only [dK, Option.bind_eq_some_iff] at h
    obtain ⟨x, h1, h2⟩ := h
    cases v <;> simp [asBool?, asStr?, asSl?, asMp?, asPt?, asInt?] at h1 <;> rfl

theorem cells_one {v : V} (h : v.one = true) : v.cells = [v] := by
  cases v <;> first | rfl | (simp [V.one] at h)

theorem dL_ok {ts : List Tk} : ∀ {i : Nat} {vs : List V} {K : List V → Option β}, dL ts i vs K = some r → i + ts.length = vs.length → K (vs.drop i) = some r := by
  induction ts with
  | nil =>
    intro i vs K h hl
    simp only [dL] at h
    rw [List.drop_of_length_le (by simp at hl; omega)]
    exact h
  | cons t ts ih =>
    intro i vs K h hl
    simp only [dL] at h
    have h1 := dK_ok h
    have h2 := ih h1 (by simp at hl; omega)
    have hi : i < vs.length := by simp at hl; omega
    rw [List.drop_eq_getElem_cons hi]
    rw [List.getD_eq_getElem?_getD, List.getElem?_eq_getElem hi] at h2
    exact h2

theorem asAgg_some {n : Nat} {v : V} {cs : List V} (h : asAgg? n v = some cs) : v = .agg cs ∧ cs.length = n := by
  cases v <;> simp [asAgg?] at h
  obtain ⟨h1, rfl⟩ := h
  exact ⟨rfl, h1⟩

theorem d1_ok {t : T1} {v : V} {K : V → Option β} (h : d1 t v K = some r) : K v = some r := by
  cases t with
  | k t => exact dK_ok h
  | agg l =>
    simp only [d1, Option.bind_eq_some_iff] at h
    obtain ⟨cs, h1, h2⟩ := h
    obtain ⟨rfl, hl⟩ := asAgg_some h1
    exact dL_ok h2 (by omega)

theorem dL1_ok {ts : List T1} : ∀ {i : Nat} {vs : List V} {K : List V → Option β}, dL1 ts i vs K = some r → i + ts.length = vs.length → K (vs.drop i) = some r := by
  induction ts with
  | nil =>
    intro i vs K h hl
    simp only [dL1] at h
    rw [List.drop_of_length_le (by simp at hl; omega)]
    exact h
  | cons t ts ih =>
    intro i vs K h hl
    simp only [dL1] at h
    have h1 := d1_ok h
    have h2 := ih h1 (by simp at hl; omega)
    have hi : i < vs.length := by simp at hl; omega
    rw [List.drop_eq_getElem_cons hi]
    rw [List.getD_eq_getElem?_getD, List.getElem?_eq_getElem hi] at h2
    exact h2

theorem dTy_ok {t : Ty} {v : V} {K : V → Option β} (h : dTy t v K = some r) : K v = some r := by
  cases t with
  | any => exact h
  | t1 t => exact d1_ok h
  | ptr l =>
    simp only [dTy, Option.bind_eq_some_iff] at h
    obtain ⟨cs, h1, h2⟩ := h
    cases v using V.cs <;> simp [asPtr?] at h1
    obtain ⟨hl, rfl⟩ := h1
    exact dL_ok h2 (by omega)
  | tup l =>
    simp only [dTy, Option.bind_eq_some_iff] at h
    obtain ⟨cs, h1, h2⟩ := h
    cases v <;> simp [asTup?] at h1
    obtain ⟨hl, rfl⟩ := h1
    exact dL1_ok h2 (by omega)

theorem dEl_ok {t : T1} {v : V} {K : List V → Option β} (h : dEl t v K = some r) : K v.cells = some r := by
  cases t with
  | k t =>
    cases t with
    | any =>
      simp only [dEl, chk_some] at h
      rw [cells_one h.1]; exact h.2
    | _ =>
      simp only [dEl] at h
      have h1 := dK_ok h
      rw [cells_one (dK_one h (by simp))]
      exact h1
  | agg l =>
    simp only [dEl, Option.bind_eq_some_iff] at h
    obtain ⟨cs, h1, h2⟩ := h
    obtain ⟨rfl, hl⟩ := asAgg_some h1
    exact dL_ok h2 (by omega)

theorem dSV_ok {t : Ty} {sv : SV} {K : SV → Option β} (h : dSV t sv K = some r) : K sv = some r := by
  cases t with
  | any => exact h
  | _ =>
    cases sv with
    | a x =>
      cases x with
      | v v =>
        simp only [dSV] at h
        exact dTy_ok (K := fun v => K (.a (.v v))) h
      | _ => exact h
    | _ => exact h

theorem ptK_ok {l : List Tk} {o : Option (List V)} {K : List V → Option β} (h : ptK l o K = some r) : ∃ cs, o = some cs ∧ K cs = some r := by
  simp only [ptK, Option.bind_eq_some_iff] at h
  obtain ⟨cs, h1, h2⟩ := h
  cases o with
  | none => simp [asPtr?] at h1
  | some xs =>
    simp only [asPtr?] at h1
    split at h1
    · rename_i hl
      cases h1
      exact ⟨_, rfl, dL_ok h2 (by omega)⟩
    · cases h1

/-! ### What operations come to -/
theorem idxL_some {α : Type} {xs : List α} {n : Int} {x : α} (h : idxL xs n = some x) : ¬ n < 0 ∧ xs[n.toNat]? = some x := by
  unfold idxL at h
  split at h
  · cases h
  · rename_i hn; exact ⟨hn, h⟩

theorem asInt_opd {sv : SV} {k : IntKind} {n : Int} (h : sv = .a (.v (.int k n))) : asInt sv = some n := by rw [h]; rfl

theorem optI_some (fr : List SV) (o : Option SOpd) (x : Option Int) (d : Int) : optI fr o = some x → (match o with | none => some d | some l => asInt (opd fr l)) = some (x.getD d) := by
  intro h
  cases o with
  | none => simp only [optI, Option.some.injEq] at h; subst h; rfl
  | some l =>
    simp only [optI] at h
    split at h
    · rename_i k n hl
      cases h
      simp only
      rw [hl]; rfl
    · cases h

theorem bounds_of {fr : List SV} {lo hi : Option SOpd} {l h : Option Int} (h1 : optI fr lo = some l) (h2 : optI fr hi = some h) (len : Nat) : bounds fr lo hi len = bI l h len := by
  have e1 := optI_some fr lo l 0 h1
  have e2 := optI_some fr hi h (len : Int) h2
  unfold bounds bI
  cases lo with
  | none =>
    cases hi with
    | none => simp only [optI, Option.some.injEq] at h1 h2; subst h1 h2; rfl
    | some y => simp only [optI, Option.some.injEq] at h1; subst h1; simp only at e2; simp only [e2]; rfl
  | some x =>
    simp only at e1
    cases hi with
    | none => simp only [optI, Option.some.injEq] at h2; subst h2; simp only [e1]; rfl
    | some y => simp only at e2; simp only [e1, e2]

theorem cutL_some {α : Type} {lo hi : Option Int} {xs ys : List α} (h : cutL lo hi xs = some ys) : ∃ l k, bI lo hi xs.length = some (l, k) ∧ ys = (xs.drop l).take (k - l) := by
  unfold cutL at h
  split at h
  · rename_i l k hb; cases h; exact ⟨l, k, hb, rfl⟩
  · cases h

theorem elems_sl (os : Objs) (o : Option (List V)) : elems os (.a (.v (.sl o))) = some (o.getD []) := by cases o <;> rfl

theorem elemsK_some {os : Objs} {i : Nat} {K : List V → Option β} (h : elemsK os (.a (.own i)) K = some r) : ∃ xs, elems os (.a (.own i)) = some xs ∧ K xs = some r := by
  simp only [elemsK] at h
  split at h
  · rename_i e sz xs hi; exact ⟨xs, by simp only [elems, hi], h⟩
  · rename_i e sz xs hi; exact ⟨xs, by simp only [elems, hi], h⟩
  · cases h

theorem eqB_some {ks : List FK} : ∀ {a b : List V} {x : Bool}, eqB ks a b = some x → eqL ks a b = some x := by
  induction ks with
  | nil =>
    intro a b x h
    cases a <;> cases b <;> simp [eqB] at h
    subst h; rfl
  | cons k ks ih =>
    intro a b x h
    cases a with
    | nil => cases b <;> cases ks <;> simp [eqB] at h
    | cons y a =>
      cases b with
      | nil => cases ks <;> cases a <;> simp [eqB] at h
      | cons z b =>
        have gen : (match eqF k y z, eqB ks a b with | some x, some y => some (x && y) | _, _ => none) = some x → eqL (k :: ks) (y :: a) (z :: b) = some x := by
          intro h
          split at h
          · rename_i p q hp hq
            cases h
            simp only [eqL, hp]
            cases p with
            | false => rfl
            | true => simpa using ih hq
          · cases h
        cases ks with
        | cons k' ks => exact gen (by simp only [eqB] at h; exact h)
        | nil =>
          cases a with
          | cons y' a => exact gen (by simp only [eqB] at h; exact h)
          | nil =>
            cases b with
            | cons z' b => exact gen (by simp only [eqB] at h; exact h)
            | nil =>
              simp only [eqB] at h
              simp only [eqL, h]
              cases x <;> rfl

theorem ariK_ok {op : BinOp} {a b : V} {K : V → Option β} (h : ariK op a b K = some r) : ∃ v, ariV op a b = some v ∧ K v = some r := by
  unfold ariK at h
  split at h
  · rename_i k x k' y
    split at h
    · rw [chk_some] at h
      refine ⟨_, ?_, h.2⟩
      have : ¬ y < 0 := by simpa using h.1
      simp [ariV, shiftI, this]
    · rw [chk_some] at h
      refine ⟨_, ?_, h.2⟩
      have : ¬ y < 0 := by simpa using h.1
      simp [ariV, shiftI, this]
    · split at h
      · rename_i hk
        rw [chk_some] at h
        refine ⟨_, ?_, h.2⟩
        have : y ≠ 0 := by simpa using h.1
        simp [ariV, ariI, hk, this]
      · cases h
    · split at h
      · rename_i hk
        rw [chk_some] at h
        refine ⟨_, ?_, h.2⟩
        have : y ≠ 0 := by simpa using h.1
        simp [ariV, ariI, hk, this]
      · cases h
    · rename_i op' h1 h2 h3 h4
      split at h
      · rename_i hk
        split at h
        · rename_i v hv
          refine ⟨v, ?_, h⟩
          cases op <;> first | (exact absurd rfl h1) | (exact absurd rfl h2) | (simp only [ariV, hk, if_true]; rw [hk] at hv; exact hv)
        · cases h
      · cases h
  · rename_i s t
    split at h
    · rw [chk_some] at h
      refine ⟨_, ?_, h.2⟩
      have : s.length + t.length ≤ maxStr := by simpa using h.1
      simp [ariV, ariS, this]
    · split at h
      · rename_i v hv
        exact ⟨v, hv, h⟩
      · cases h
  · cases h

theorem eqK_ok {k : EqK} {x y : SV} {K : Bool → Option β} (h : eqK k x y K = some r) : ∃ b, eqV k x y = some b ∧ K b = some r := by
  unfold eqK at h
  split at h
  · split at h
    · rename_i kt _ _ a b
      split at h
      · rename_i p q hp hq
        split at h
        · rename_i b' hb
          refine ⟨b', ?_, h⟩
          simp only [eqV, keyEq, hp, hq]
          exact eqB_some hb
        · cases h
      · cases h
    · cases h
  · split at h
    · split at h
      · rename_i o
        rw [Option.bind_eq_some_iff] at h
        obtain ⟨b, h1, h2⟩ := h
        refine ⟨b, ?_, h2⟩
        cases o with
        | none => simpa [nilS, eqV] using h1
        | some xs => cases xs <;> simp [nilS] at h1; subst h1; rfl
      · exact ⟨_, rfl, h⟩
      · cases h
    · cases h
  · split at h
    · split at h
      · rename_i o
        refine ⟨_, ?_, h⟩
        cases o <;> rfl
      · exact ⟨_, rfl, h⟩
      · cases h
    · cases h
  · split at h
    · split at h
      · rename_i o
        refine ⟨_, ?_, h⟩
        cases o <;> rfl
      · exact ⟨_, rfl, h⟩
      · cases h
    · cases h
  · split at h
    · split at h
      · rename_i v
        rw [Option.bind_eq_some_iff] at h
        obtain ⟨b, h1, h2⟩ := h
        refine ⟨b, ?_, h2⟩
        cases v using V.cs <;> simp [nilI] at h1 <;> subst h1 <;> rfl
      · cases h
    · cases h
  · split at h
    · rename_i b hb; exact ⟨b, hb, h⟩
    · cases h

theorem appK_ok {mm : Bool} {e : TypeId} {sz : Nat} {os : Objs} {s : SV} {ys : List V} {K : SV → Objs → Option β} (h : appK mm e sz os s ys K = some r) : ∃ y, appendA mm e sz os s ys = some y ∧ K y.sv y.objs = some r := by
  unfold appK at h
  split at h
  · rw [cond_some] at h
    rcases h with ⟨h1, h2⟩ | ⟨h1, h2⟩
    · cases ys with
      | nil => exact ⟨⟨_, _⟩, rfl, h2⟩
      | cons y ys => simp at h1
    · cases ys with
      | nil => simp at h1
      | cons y ys =>
        rw [chk_some, Bool.and_eq_true] at h2
        obtain ⟨⟨q1, q2⟩, q3⟩ := h2
        refine ⟨⟨_, _⟩, ?_, q3⟩
        simp only [appendA]
        rw [if_pos ⟨q1, q2⟩]
  · split at h
    · rename_i hi
      split at h
      · rename_i hc
        rw [chk_some, Bool.and_eq_true] at h
        obtain ⟨⟨q1, q2⟩, q3⟩ := h
        refine ⟨⟨_, _⟩, ?_, q3⟩
        simp only [appendA, hi]
        rw [if_pos ⟨hc.1, hc.2, q1, q2⟩]
      · cases h
    · rename_i hi
      split at h
      · rename_i hc
        rw [chk_some, Bool.and_eq_true] at h
        obtain ⟨⟨q1, q2⟩, q3⟩ := h
        refine ⟨⟨_, _⟩, ?_, q3⟩
        simp only [appendA, hi]
        rw [if_pos ⟨hc.1, hc.2, q1, q2⟩]
      · cases h
    · cases h
  · cases h

theorem boxK_ok {n : Nat} {sv : SV} {K : List At → Option β} (h : boxK n sv K = some r) : ∃ cs, sv.cells = some cs ∧ cs.length = n ∧ cs.all At.one = true ∧ K cs = some r := by
  unfold boxK at h
  split at h
  · rename_i cs hcs
    split at h
    · rename_i hn
      rw [chk_some] at h
      exact ⟨cs, hcs, hn, h.1, h.2⟩
    · cases h
  · cases h

theorem lookM_ok {kt : KT} {k : V} {o : Option (List V)} {y : Option V} (h : lookM kt k o = some y) : (match o with | none => some none | some es => findV kt k es) = some y := by
  cases o <;> exact h
end
end Go.Ev

/- One operation, staged, answers as the evaluator's. -/
namespace Go.Ev

def CallsAs (call : CallK) (callE : CallT) : Prop := ∀ {β : Type} (f : FuncId) (args : List SV) (os : Objs) (K : SV → Objs → Option β) (r : β), call f args os K = some r → ∃ y, callE f args os = some y ∧ K y.sv y.objs = some r

section
variable {β : Type} {r : β} {call : CallK} {callE : CallT} {mm : Bool} {ty : Ty} {fr : List SV} {os : Objs} {K : SV → Objs → Option β}

theorem goOp_some {y : Option R} (h : goOp y K = some r) : ∃ z, y = some z ∧ K z.sv z.objs = some r := by
  cases y with
  | none => cases h
  | some z => exact ⟨z, rfl, h⟩

theorem freezeS_v (os : Objs) (x : V) : freezeS os (.a (.v x)) = some (x, os) := rfl

theorem frz_one : ∀ (ys : List At) (os : Objs) (vs : List V) (os' : Objs), freezeL (freezeA depth) os ys = some (vs, os') → vs.all V.one = true → ys.all At.one = true := by
  intro ys
  induction ys with
  | nil => intro os vs os' _ _; rfl
  | cons y ys ih =>
    intro os vs os' h hv
    simp only [freezeL] at h
    split at h
    · rename_i v os1 h1
      split at h
      · rename_i vs' os2 h2
        simp only [Option.some.injEq, Prod.mk.injEq] at h
        obtain ⟨rfl, rfl⟩ := h
        simp only [List.all_cons, Bool.and_eq_true] at hv ⊢
        refine ⟨?_, ih _ _ _ h2 hv.2⟩
        cases y with
        | v x =>
          have : freezeA depth os (.v x) = some (x, os) := rfl
          rw [this] at h1
          cases h1
          exact hv.1
        | _ => rfl
      · cases h
    · cases h

theorem allV_eq : ∀ {cs : List At} {vs : List V}, allV cs = some vs → cs = vs.map At.v := by
  intro cs
  induction cs with
  | nil => intro vs h; cases h; rfl
  | cons c cs ih =>
    intro vs h
    cases c with
    | v x =>
      unfold allV at h
      cases hr : allV cs with
      | none => rw [hr] at h; cases h
      | some ws => rw [hr] at h; cases h; rw [ih hr]; rfl
    | _ => cases h
theorem ldC_some {os : Objs} {n : Nat} {ag : Bool} {sx : SV} {vs : List V} {o : Nat} {v : V} (h : ldC os n ag sx = some (vs, o)) (hv : vs[o]? = some v) : loadA os n ag sx = some (.a (.v v)) := by
  unfold ldC at h
  split at h
  · rename_i i o'
    split at h
    · rename_i ty cs hi
      split at h
      · rename_i hc
        obtain ⟨_, rfl, rfl⟩ := hc
        cases ha : allV cs with
        | none => rw [ha] at h; cases h
        | some ws =>
          rw [ha] at h
          cases h
          have := allV_eq ha
          subst this
          simp only [loadA, hi, cutA, List.getElem?_map, hv, Option.map_some]
          rfl
      · cases h
    · cases h
  · cases h

theorem st_ld {n : Nat} {ag : Bool} {x : SOpd} (h : stOp mm call ty fr os (.ld n ag x) K = some r) : ∃ y, evOp mm callE fr os (.ld n ag x) = some y ∧ K y.sv y.objs = some r := by
  simp only [stOp] at h
  split at h
  · rename_i i sz k o hx
    split at h
    · rename_i e sz' xs hi
      split at h
      · rename_i hsz
        rw [Option.bind_eq_some_iff] at h
        obtain ⟨x', h1, h2⟩ := h
        obtain ⟨hk, h1⟩ := idxL_some h1
        have h3 := dEl_ok h2
        split at h3
        · rename_i s hs
          have hk' : ((k : Int)).toNat = k := by omega
          rw [hk'] at h1
          refine ⟨⟨s, os⟩, ?_, h3⟩
          simp only [evOp, loadA, hx, hi, hsz, if_true, h1, hs]
        · cases h3
      · cases h
    · cases h
  · rename_i o hx
    obtain ⟨cs, rfl, h2⟩ := ptK_ok h
    split at h2
    · rename_i s hs
      exact ⟨⟨s, os⟩, by simp only [evOp, loadA, hx, hs], h2⟩
    · cases h2
  · split at h
    · rename_i vs o hl
      rw [Option.bind_eq_some_iff] at h
      obtain ⟨v, hv, h⟩ := h
      exact ⟨⟨.a (.v v), os⟩, by simp only [evOp, ldC_some hl hv], dSV_ok (K := fun sv => K sv os) h⟩
    · split at h
      · rename_i y hy
        exact ⟨y, hy, dSV_ok (K := fun sv => K sv y.objs) h⟩
      · cases h

theorem st_st {n : Nat} {x v : SOpd} (h : stOp mm call ty fr os (.st n x v) K = some r) : ∃ y, evOp mm callE fr os (.st n x v) = some y ∧ K y.sv y.objs = some r := by
  simp only [stOp] at h
  split at h
  · rename_i i o hx
    obtain ⟨ys, h1, h2, h3, h4⟩ := boxK_ok h
    split at h4
    · rename_i ty' cs hi
      split at h4
      · rename_i hl
        refine ⟨⟨.void, _⟩, ?_, h4⟩
        simp only [evOp, storeA, h1, hx, hi]
        rw [if_pos ⟨h2, h3⟩, if_pos hl]
      · cases h4
    · cases h4
  · rename_i i sz k o hx
    split at h
    · rename_i ys hys
      split at h
      · rename_i hn
        split at h
        · rename_i vs os1 hf
          rw [chk_some] at h
          obtain ⟨hone, h⟩ := h
          have hall : ys.all At.one = true := frz_one ys os vs os1 hf hone
          split at h
          · rename_i e sz' xs hi
            split at h
            · rename_i hsz
              rw [Option.bind_eq_some_iff] at h
              obtain ⟨x', h1, h2⟩ := h
              obtain ⟨hk, h1⟩ := idxL_some h1
              have hk' : ((k : Int)).toNat = k := by omega
              rw [hk'] at h1
              split at h2
              · rename_i l hl
                rw [Option.bind_eq_some_iff] at h2
                obtain ⟨cs, h3, h4⟩ := h2
                obtain ⟨rfl, hlen⟩ := asAgg_some h3
                split at h4
                · rename_i hle
                  refine ⟨⟨.void, _⟩, ?_, h4⟩
                  simp only [evOp, storeA, hys, hx, hf, hi, h1]
                  rw [if_pos ⟨hn, hall⟩]
                  simp only [hone]
                  rw [if_neg (by simp), if_pos hsz]
                  simp only [V.one, V.cells, hlen]
                  rw [if_neg (by simp), if_pos hle]
                · cases h4
              · split at h2
                · rename_i y
                  rw [chk_some] at h2
                  refine ⟨⟨.void, _⟩, ?_, h2.2⟩
                  simp only [evOp, storeA, hys, hx, hf, hi, h1]
                  rw [if_pos ⟨hn, hall⟩]
                  simp only [hone]
                  rw [if_neg (by simp), if_pos hsz]
                  simp only [h2.1]
                  rfl
                · cases h2
            · cases h
          · cases h
        · cases h
      · cases h
    · cases h
  · cases h

theorem st_iadr {sz : Nat} {x i : SOpd} (h : stOp mm call ty fr os (.iadr sz x i) K = some r) : ∃ y, evOp mm callE fr os (.iadr sz x i) = some y ∧ K y.sv y.objs = some r := by
  simp only [stOp] at h
  split at h
  · rename_i k n hi
    split at h
    · rename_i o hx
      rw [Option.bind_eq_some_iff] at h
      obtain ⟨y, h1, h2⟩ := h
      obtain ⟨hn, h1⟩ := idxL_some h1
      have h3 := dEl_ok h2
      split at h3
      · rename_i hc
        refine ⟨⟨_, _⟩, ?_, h3⟩
        cases o with
        | none => simp at h1
        | some xs =>
          simp only [Option.getD_some] at h1
          simp only [evOp, hi, hx, asInt, hn, if_false, h1, hc, if_true]
      · cases h3
    · rename_i j s o m hx
      split at h
      · rename_i hsz
        rw [chk_some, Bool.and_eq_true] at h
        obtain ⟨⟨q1, q2⟩, h⟩ := h
        have q1 : 0 ≤ n := by simpa using q1
        have q2 : n.toNat < m := by simpa using q2
        refine ⟨⟨_, _⟩, ?_, h⟩
        simp only [evOp, hi, hx, asInt]
        rw [if_neg (by omega), if_pos ⟨hsz, q2⟩]
      · cases h
    · rename_i j hx
      split at h
      · rename_i e sz' xs hj
        rw [Option.bind_eq_some_iff] at h
        obtain ⟨y, h1, h2⟩ := h
        obtain ⟨hn, h1⟩ := idxL_some h1
        have h3 := dEl_ok h2
        split at h3
        · rename_i hc
          refine ⟨⟨_, _⟩, ?_, h3⟩
          simp only [evOp, hi, hx, asInt, hn, if_false, hj, h1, hc, if_true]
        · cases h3
      · rename_i e sz' xs hj
        split at h
        · rename_i hsz
          rw [chk_some, Bool.and_eq_true] at h
          obtain ⟨⟨q1, q2⟩, h⟩ := h
          have q1 : 0 ≤ n := by simpa using q1
          have q2 : n.toNat < xs.length := by simpa using q2
          refine ⟨⟨_, _⟩, ?_, h⟩
          simp only [evOp, hi, hx, asInt, hj]
          rw [if_neg (by omega), if_pos ⟨hsz, q2⟩]
        · cases h
      · cases h
    · cases h
  · cases h

theorem st_slcL {sz : Nat} {x : SOpd} {lo hi : Option SOpd} (h : stOp mm call ty fr os (.slcL sz x lo hi) K = some r) : ∃ y, evOp mm callE fr os (.slcL sz x lo hi) = some y ∧ K y.sv y.objs = some r := by
  simp only [stOp] at h
  split at h
  · rename_i l k hl hk
    split at h
    · rename_i i o n hwin
      rw [Option.bind_eq_some_iff] at h
      obtain ⟨q, h1, h2⟩ := h
      refine ⟨⟨_, _⟩, ?_, h2⟩
      simp only [evOp, hwin]
      rw [bounds_of hl hk, h1]
    rename_i hwin
    split at h
    · rename_i o hx
      rw [Option.bind_eq_some_iff] at h
      obtain ⟨o', h1, h2⟩ := h
      refine ⟨⟨_, _⟩, ?_, h2⟩
      cases o with
      | none =>
        simp only [cutSl, Option.map_eq_some_iff] at h1
        obtain ⟨ys, h3, rfl⟩ := h1
        obtain ⟨a, b, h4, -⟩ := cutL_some h3
        simp only [evOp, hwin]
        simp only [hx]
        rw [bounds_of hl hk]
        simp only [List.length_nil] at h4
        rw [h4]
      | some xs =>
        simp only [cutSl] at h1
        split at h1
        · rename_i hh
          simp only [Option.map_eq_some_iff] at h1
          obtain ⟨ys, h3, rfl⟩ := h1
          obtain ⟨a, b, h4, rfl⟩ := cutL_some h3
          simp only [evOp, hwin]
          simp only [hx, elems, freezeS_v]
          rw [bounds_of hl hk, h4]
          simp only [hh, if_true]
        · cases h1
    · rename_i i hx
      obtain ⟨xs, h1, h2⟩ := elemsK_some h
      rw [Option.bind_eq_some_iff] at h2
      obtain ⟨ys, h3, h4⟩ := h2
      obtain ⟨a, b, h5, rfl⟩ := cutL_some h3
      split at h4
      · rename_i v os1 hf
        rw [chk_some] at h4
        refine ⟨⟨_, _⟩, ?_, h4.2⟩
        simp only [evOp, hwin]
        simp only [hx, h1, hf]
        rw [bounds_of hl hk, h5]
        simp only [h4.1, if_true]
      · cases h4
    · cases h
  · cases h

theorem optTup_getD {ok : Bool} {zero : V} {y : Option V} : optTup ok (.a (.v (y.getD zero))) y.isSome = (match y with | some x => optTup ok (.a (.v x)) true | none => optTup ok (.a (.v zero)) false) := by
  cases y <;> rfl

theorem st_look {kt : KT} {zero : V} {ok : Bool} {x i : SOpd} (h : stOp mm call ty fr os (.look kt zero ok x i) K = some r) : ∃ y, evOp mm callE fr os (.look kt zero ok x i) = some y ∧ K y.sv y.objs = some r := by
  simp only [stOp] at h
  split at h
  · cases h
  · rename_i k os1 hf
    split at h
    · cases h
    · rename_i cs hcs
      split at h
      · rename_i o hx
        rw [Option.bind_eq_some_iff] at h
        obtain ⟨y, h1, h2⟩ := h
        have h3 := dSV_ok (K := fun sv => K sv os1) h2
        rw [optTup_getD] at h3
        have h1 := lookM_ok h1
        refine ⟨⟨_, _⟩, ?_, h3⟩
        simp only [evOp, hf, hcs, hx, Option.isNone_some]
        cases o with
        | none => simp only at h1; cases h1; rfl
        | some es => simp only at h1; cases y <;> simp [h1]
      · rename_i j hx
        split at h
        · rename_i es hj
          rw [Option.bind_eq_some_iff] at h
          obtain ⟨y, h1, h2⟩ := h
          have h3 := dSV_ok (K := fun sv => K sv os1) h2
          rw [optTup_getD] at h3
          refine ⟨⟨_, _⟩, ?_, h3⟩
          simp only [evOp, hf, hcs, hx, Option.isNone_some, hj]
          unfold lookE at h1
          split at h1
          · rename_i y' hy; cases h1; simp [hy]
          · rename_i hy; cases h1; simp [hy]
          · cases h1
        · cases h
      · cases h

theorem st_app {e : TypeId} {sz : Nat} {s x : SOpd} (h : stOp mm call ty fr os (.app e sz s x) K = some r) : ∃ y, evOp mm callE fr os (.app e sz s x) = some y ∧ K y.sv y.objs = some r := by
  simp only [stOp] at h
  split at h
  · rename_i v hx
    rw [Option.bind_eq_some_iff] at h
    obtain ⟨ys, h1, h2⟩ := h
    obtain ⟨y, h3, h4⟩ := appK_ok h2
    refine ⟨y, ?_, h4⟩
    cases v <;> simp [elV] at h1
    · subst h1; simp only [evOp, hx]; exact h3
    · rename_i o
      subst h1
      simp only [evOp, hx, elems_sl, freezeS_v]
      exact h3
  · rename_i i hx
    obtain ⟨xs, h1, h2⟩ := elemsK_some h
    split at h2
    · rename_i v os1 hf
      obtain ⟨y, h3, h4⟩ := appK_ok h2
      refine ⟨y, ?_, h4⟩
      simp only [evOp, hx, h1, hf]
      exact h3
    · cases h2
  · cases h

theorem idxK_some {β : Type} {r : β} {K : Nat → Option β} {n : Int} : ∀ {k j : Nat}, idxK k j n K = some r → ∃ m : Nat, n = (m : Int) ∧ j ≤ m ∧ m < j + k ∧ K m = some r := by
  intro k
  induction k with
  | zero => intro j h; cases h
  | succ k ih =>
    intro j h
    unfold idxK at h
    cases hb : (n == (j : Int)) with
    | true =>
      rw [hb] at h
      exact ⟨j, by simpa using hb, Nat.le_refl _, by omega, h⟩
    | false =>
      rw [hb] at h
      obtain ⟨m, h1, h2, h3, h4⟩ := ih h
      exact ⟨m, h1, by omega, by omega, h4⟩

theorem stOp_ok (hc : CallsAs call callE) {op : SOp} (h : stOp mm call ty fr os op K = some r) : ∃ y, evOp mm callE fr os op = some y ∧ K y.sv y.objs = some r := by
  cases op with
  | pick c a b =>
    simp only [stOp] at h
    split at h
    · rename_i t ht
      rw [cond_some] at h
      rcases h with ⟨rfl, h⟩ | ⟨rfl, h⟩
      · exact ⟨⟨_, _⟩, by simp only [evOp, ht]; rfl, h⟩
      · exact ⟨⟨_, _⟩, by simp only [evOp, ht]; rfl, h⟩
    · cases h
  | box ty n x =>
    simp only [stOp] at h
    obtain ⟨cs, h1, h2, h3, h4⟩ := boxK_ok h
    refine ⟨⟨_, _⟩, ?_, h4⟩
    simp only [evOp, h1]
    rw [if_pos ⟨h2, h3⟩]
  | ari op x y =>
    simp only [stOp] at h
    split at h
    · rename_i a b ha hb
      obtain ⟨v, h1, h2⟩ := ariK_ok h
      exact ⟨⟨_, _⟩, by simp only [evOp, ha, hb, h1], h2⟩
    · cases h
  | eq neg k x y =>
    simp only [stOp] at h
    obtain ⟨b, h1, h2⟩ := eqK_ok h
    exact ⟨⟨_, _⟩, by simp only [evOp, h1], h2⟩
  | ld n ag x => exact st_ld h
  | st n x v => exact st_st h
  | nchk x =>
    simp only [stOp] at h
    split at h
    · rename_i o hx
      obtain ⟨cs, rfl, h2⟩ := ptK_ok h
      exact ⟨⟨_, _⟩, by simp only [evOp, hx], h2⟩
    · exact goOp_some h
  | fadr off x =>
    simp only [stOp] at h
    split at h
    · rename_i o hx
      obtain ⟨cs, rfl, h2⟩ := ptK_ok h
      exact ⟨⟨_, _⟩, by simp only [evOp, hx], h2⟩
    · exact goOp_some h
  | cvSB e x =>
    simp only [stOp] at h
    split at h
    · rename_i s hs
      rw [chk_some] at h
      exact ⟨⟨_, _⟩, by simp only [evOp, hs, h.1, if_true]; rfl, h.2⟩
    · cases h
  | cvBS x =>
    simp only [stOp] at h
    have key : ∀ xs, elems os (opd fr x) = some xs → ((bytesOf xs).bind fun s => K (.a (.v (.str s))) os) = some r → ∃ y, evOp mm callE fr os (.cvBS x) = some y ∧ K y.sv y.objs = some r := by
      intro xs h1 h2
      rw [Option.bind_eq_some_iff] at h2
      obtain ⟨s, h3, h4⟩ := h2
      exact ⟨⟨_, _⟩, by simp only [evOp, h1, h3], h4⟩
    generalize hsv : opd fr x = sv at h key
    cases sv with
    | a y =>
      cases y with
      | v v =>
        simp only [elemsK, Option.bind_eq_some_iff] at h
        obtain ⟨ys, h1, s, h3, h4⟩ := h
        cases v <;> simp [slV] at h1
        subst h1
        exact key _ (elems_sl _ _) (by rw [h3]; exact h4)
      | own i =>
        obtain ⟨xs, h1, h2⟩ := elemsK_some h
        exact key xs h1 h2
      | _ => cases h
    | _ => cases h
  | iadr sz x i => exact st_iadr h
  | iadrA len sz x i =>
    simp only [stOp] at h
    split at h
    · rename_i kk n hn
      have hsel : ∃ m : Nat, n = (m : Int) ∧ m < len ∧ (match opd fr x with
          | .a (.loc j o) => K (.a (.loc j (o + m * sz))) os
          | .a (.el j s q o) => K (.a (.el j s q (o + m * sz))) os
          | .a (.fadr cs o) => K (.a (.fadr cs (o + m * sz))) os
          | .a (.v (.ptr cs)) => K (.a (.fadr cs (m * sz))) os
          | _ => none) = some r := by
        split at h
        · obtain ⟨m, q1, _, q2, q3⟩ := idxK_some h
          exact ⟨m, q1, by omega, q3⟩
        · rw [chk_some, Bool.and_eq_true, decide_eq_true_eq, decide_eq_true_eq] at h
          exact ⟨n.toNat, by omega, by omega, h.2⟩
      obtain ⟨m, rfl, hm, h⟩ := hsel
      have hb : (0 : Int) ≤ (m : Int) ∧ (m : Int) < len := by omega
      have hm' : ((m : Nat) : Int).toNat = m := by omega
      split at h
      · rename_i j o hx
        exact ⟨⟨_, _⟩, by simp only [evOp, hn, asInt]; rw [if_pos hb, hx, hm'], h⟩
      · rename_i j s q o hx
        exact ⟨⟨_, _⟩, by simp only [evOp, hn, asInt]; rw [if_pos hb, hx, hm'], h⟩
      · rename_i cs o hx
        exact ⟨⟨_, _⟩, by simp only [evOp, hn, asInt]; rw [if_pos hb, hx, hm'], h⟩
      · rename_i cs hx
        exact ⟨⟨_, _⟩, by simp only [evOp, hn, asInt]; rw [if_pos hb, hx, hm'], h⟩
      · cases h
    · cases h
  | idxS x i =>
    simp only [stOp] at h
    split at h
    · rename_i s k n hs hn
      rw [Option.bind_eq_some_iff] at h
      obtain ⟨b, h1, h2⟩ := h
      obtain ⟨h0, h1⟩ := idxL_some h1
      exact ⟨⟨_, _⟩, by simp only [evOp, hs, hn, asInt, h0, if_false, h1], h2⟩
    · cases h
  | slcS x lo hi =>
    simp only [stOp] at h
    split at h
    · rename_i s l k hs hl hk
      rw [Option.bind_eq_some_iff] at h
      obtain ⟨t, h1, h2⟩ := h
      obtain ⟨a, b, h3, rfl⟩ := cutL_some h1
      exact ⟨⟨_, _⟩, by simp only [evOp, hs]; rw [bounds_of hl hk, h3], h2⟩
    · cases h
  | slcL sz x lo hi => exact st_slcL h
  | look kt zero ok x i => exact st_look h
  | mupd kt x k v =>
    simp only [stOp] at h
    split at h
    · cases h
    · rename_i k' os1 hf
      split at h
      · cases h
      · rename_i cs hcs
        split at h
        · rename_i j y hx hy
          split at h
          · rename_i es hj
            rw [chk_some, Option.bind_eq_some_iff] at h
            obtain ⟨h1, es', h2, h3⟩ := h
            exact ⟨⟨_, _⟩, by simp only [evOp, hf, hcs, hx, hy, hj, h1, h2, Option.isNone_some]; rfl, h3⟩
          · cases h
        · cases h
  | s2a n x =>
    simp only [stOp] at h
    split at h
    · rename_i l
      have key : ∀ xs, elems os (opd fr x) = some xs → chk (decide (xs.length = n) && decide (0 < n) && decide (l.length = n)) (dL l 0 xs fun cs => chk (cs.all V.one) (match freezeS os (opd fr x) with
          | some (_, os) => K (.a (.fadr cs 0)) os
          | none => none)) = some r → ∃ y, evOp mm callE fr os (.s2a n x) = some y ∧ K y.sv y.objs = some r := by
        intro xs h1 h2
        rw [chk_some] at h2
        obtain ⟨h3, h4⟩ := h2
        simp only [Bool.and_eq_true, decide_eq_true_eq] at h3
        obtain ⟨⟨q1, q2⟩, q3⟩ := h3
        have h5 := dL_ok h4 (by omega)
        simp only [List.drop_zero, chk_some] at h5
        obtain ⟨h6, h7⟩ := h5
        split at h7
        · rename_i v os1 hf
          refine ⟨⟨_, _⟩, ?_, h7⟩
          simp only [evOp, h1, hf]
          rw [if_pos ⟨by omega, q2, h6⟩]
        · cases h7
      generalize hsv : opd fr x = sv at h key
      cases sv with
      | a y =>
        cases y with
        | v v =>
          simp only [elemsK, Option.bind_eq_some_iff] at h
          obtain ⟨ys, h1, h2⟩ := h
          cases v <;> simp [slV] at h1
          subst h1
          exact key _ (elems_sl _ _) h2
        | own i =>
          obtain ⟨xs, h1, h2⟩ := elemsK_some h
          exact key xs h1 h2
        | _ => cases h
      | _ => cases h
    · cases h
  | mksl e sz zero len cap =>
    simp only [stOp] at h
    split at h
    · rename_i k l k' c hl hc
      rw [chk_some] at h
      obtain ⟨h1, h2⟩ := h
      simp only [Bool.and_eq_true, decide_eq_true_eq] at h1
      refine ⟨⟨_, _⟩, ?_, h2⟩
      simp only [evOp, hl, hc, asInt]
      rw [if_pos ⟨h1.1.1, h1.1.2, h1.2⟩]
    · cases h
  | nxt x =>
    simp only [stOp] at h
    split at h
    · rename_i i hx
      split at h
      · rename_i s pos hi
        rw [cond_some] at h
        rcases h with ⟨h1, h⟩ | ⟨h1, h⟩
        · refine ⟨⟨_, _⟩, ?_, h⟩
          simp only [evOp, hx, hi]
          rw [if_pos (by simpa using h1)]
        · refine ⟨⟨_, _⟩, ?_, h⟩
          simp only [evOp, hx, hi]
          rw [if_neg (by simpa using h1)]
      · cases h
    · cases h
  | call f args => exact hc f _ os K r h
  | callv f args =>
    simp only [stOp] at h
    simp only [evOp]
    split at h
    · rename_i g a b hf
      rw [hf]
      exact hc _ _ os K r h
    · rename_i g a b hf
      rw [hf]
      exact hc _ _ os K r h
    · cases h
  | len k x =>
    simp only [stOp] at h
    split at h
    · split at h
      · rename_i o hx
        refine ⟨⟨_, _⟩, ?_, h⟩
        simp only [evOp, lenV, hx]
        cases o <;> rfl
      · rename_i i hx
        obtain ⟨xs, h1, h2⟩ := elemsK_some h
        refine ⟨⟨_, _⟩, ?_, h2⟩
        simp only [evOp, lenV, hx, lenL]
        simp only [elems] at h1
        split at h1
        · rename_i hi; cases h1; simp only [hi]
        · rename_i hi; cases h1; simp only [hi]
        · cases h1
      · rename_i j sz lo n hx
        exact ⟨⟨_, _⟩, by simp only [evOp, lenV, hx, lenL], h⟩
      · cases h
    · split at h
      · rename_i n hn
        exact ⟨⟨_, _⟩, by simp only [evOp, hn], h⟩
      · cases h
  | app e sz s x => exact st_app h
  | _ =>
    simp only [stOp] at h
    exact goOp_some h
end
end Go.Ev

/- Regions, shapes, code, functions, calls: staged, they answer as the evaluator's. -/
namespace Go.Ev

section
variable {β : Type} {r : β} {call : CallK} {callE : CallT} {mm : Bool} {tys : List (Nat × Ty)}

theorem set_nth {x : SV} (hx : x ≠ .undef) : ∀ {fr : List SV} {t : Nat}, nth fr t = x → fr.set t x = fr := by
  intro fr
  induction fr with
  | nil => intro t h; rfl
  | cons y fr ih =>
    intro t h
    cases t with
    | zero => simp only [nth] at h; subst h; rfl
    | succ t => simp only [nth] at h; simp only [List.set_cons_succ, ih h]

theorem guardK_ok {fr : List SV} {g : Option (Nat × Bool)} {run skip : List SV → Option β} (h : guardK fr g run skip = some r) : (wants fr g = some true ∧ run fr = some r) ∨ (wants fr g = some false ∧ skip fr = some r) := by
  unfold guardK at h
  split at h
  · exact .inl ⟨rfl, h⟩
  · rename_i t want
    split at h
    · rename_i b hb
      have ht : fr.set t (.a (.v (.bool b))) = fr := set_nth (by simp) hb
      cases b <;> cases want <;> simp only [cond_true, cond_false, ht] at h
      · exact .inl ⟨by simp [wants, hb], h⟩
      · exact .inr ⟨by simp [wants, hb], h⟩
      · exact .inr ⟨by simp [wants, hb], h⟩
      · exact .inl ⟨by simp [wants, hb], h⟩
    · rename_i ht
      exact .inr ⟨by simp [wants, ht], h⟩
    · cases h

theorem stOps_ok (hc : CallsAs call callE) : ∀ {ops : List SOper} {st : St} {K : St → Option β}, stOps mm call tys ops st K = some r → ∃ st', evOps mm callE ops st = some st' ∧ K st' = some r := by
  intro ops
  induction ops with
  | nil => intro st K h; exact ⟨st, rfl, h⟩
  | cons o ops ih =>
    intro st K h
    simp only [stOps] at h
    rcases guardK_ok h with ⟨hw, h⟩ | ⟨hw, h⟩
    · obtain ⟨y, h1, h2⟩ := stOp_ok hc h
      obtain ⟨st', h3, h4⟩ := ih h2
      exact ⟨st', by simp only [evOps, hw, h1, h3], h4⟩
    · obtain ⟨st', h3, h4⟩ := ih h
      exact ⟨st', by simp only [evOps, hw, h3], h4⟩

theorem stDraw_ok (hc : CallsAs call callE) : ∀ {ops : List SOper} {st : St} {K : St → List DStep → Option β}, stDraw mm call tys ops st K = some r → ∃ st' ds, evDraw mm callE ops st = some (st', ds) ∧ K st' ds = some r := by
  intro ops
  induction ops with
  | nil => intro st K h; exact ⟨st, [], rfl, h⟩
  | cons o ops ih =>
    intro st K h
    simp only [stDraw] at h
    rcases guardK_ok h with ⟨hw, h⟩ | ⟨hw, h⟩
    · split at h
      · rename_i hall
        obtain ⟨y, h1, h2⟩ := stOp_ok hc h
        split at h2
        · rename_i hlen
          obtain ⟨st', ds, h3, h4⟩ := ih h2
          refine ⟨st', _, ?_, h4⟩
          simp only [evDraw, hw, h1]
          rw [if_pos hall, if_pos hlen, h3]
        · cases h2
      · cases h
    · obtain ⟨st', ds, h3, h4⟩ := ih h
      refine ⟨st', _, ?_, h4⟩
      simp only [evDraw, hw, h3]

theorem stRegion_ok (hc : CallsAs call callE) {ops : List SOper} {draw : Bool} {st : St} {K : St → Option β} (h : stRegion mm call tys ops draw st K = some r) : ∃ st', evRegion mm callE ops draw st = some st' ∧ K st' = some r := by
  unfold stRegion at h
  split at h
  · rename_i hd
    split at h
    · rename_i ho
      obtain ⟨st', ds, h1, h2⟩ := stDraw_ok hc h
      split at h2
      · rename_i hf
        refine ⟨st', ?_, h2⟩
        simp only [evRegion, hd, if_true]
        rw [if_pos ho, h1]
        simp only
        rw [if_pos hf]
      · cases h2
    · cases h
  · rename_i hd
    obtain ⟨st', h1, h2⟩ := stOps_ok hc h
    exact ⟨st', by simp only [evRegion, hd]; exact h1, h2⟩

/-! ### Shapes -/
def Lies (hs : List H) (i : Nat) (a : List H) : Prop := ∀ (k : Nat) (h : H), a[k]? = some h → hs[i + k]? = some h

theorem Lies.left {hs : List H} {i : Nat} {a b : List H} (h : Lies hs i (a ++ b)) : Lies hs i a := fun k x hk => h k x (by rw [List.getElem?_append_left (by have := List.getElem?_eq_some_iff.1 hk; exact this.1)]; exact hk)
theorem Lies.right {hs : List H} {i : Nat} {a b : List H} (h : Lies hs i (a ++ b)) : Lies hs (i + a.length) b := fun k x hk => by
  have := h (a.length + k) x (by rw [List.getElem?_append_right (by omega)]; simpa using hk)
  rw [← this]; congr 1; omega
theorem Lies.get {hs : List H} {i : Nat} {x : H} {a : List H} (h : Lies hs i (x :: a)) : hs.getD i default = x := by
  have := h 0 x rfl
  rw [List.getD_eq_getElem?_getD]
  simpa using congrArg (fun o => o.getD default) this

theorem unA_ok {hs : List H} {p : PA} {x : At} {a : List H} {i : Nat} {K : At → Nat → Option β} (h : pkA p x = some a) (hl : Lies hs i a) (hu : unA hs p i K = some r) : K x (i + a.length) = some r := by
  cases p with
  | h t =>
    cases x <;> simp [pkA] at h
    subst h
    simp only [unA] at hu
    have := dTy_ok hu
    simp only [hV, hl.get] at this
    exact this
  | nil =>
    cases x with
    | v v => cases v using V.cs <;> simp [pkA] at h; subst h; exact hu
    | _ => simp [pkA] at h
  | np =>
    cases x with
    | v v => cases v using V.cs <;> simp [pkA] at h; subst h; exact hu
    | _ => simp [pkA] at h
  | loc j o => cases x <;> simp [pkA] at h; obtain ⟨⟨rfl, rfl⟩, rfl⟩ := h; exact hu
  | own j => cases x <;> simp [pkA] at h; obtain ⟨rfl, rfl⟩ := h; exact hu
  | win j sz =>
    cases x with
    | win j' sz' lo n =>
      simp only [pkA] at h
      split at h
      · rename_i hc
        obtain ⟨rfl, rfl⟩ := hc
        cases h
        have h2 := Lies.get (Lies.right (a := [_]) hl)
        simp only [List.length_cons, List.length_nil, Nat.zero_add] at h2
        simp only [unA, hN, hl.get, h2] at hu
        exact hu
      · cases h
    | _ => simp [pkA] at h
  | mapr j => cases x <;> simp [pkA] at h; obtain ⟨rfl, rfl⟩ := h; exact hu
  | itr j => cases x <;> simp [pkA] at h; obtain ⟨rfl, rfl⟩ := h; exact hu

theorem unAs_ok {hs : List H} : ∀ {ps : List PA} {xs : List At} {a : List H} {i : Nat} {K : List At → Nat → Option β}, pkAs ps xs = some a → Lies hs i a → unAs hs ps i K = some r → K xs (i + a.length) = some r := by
  intro ps
  induction ps with
  | nil =>
    intro xs a i K h hl hu
    cases xs <;> simp [pkAs] at h
    subst h; exact hu
  | cons p ps ih =>
    intro xs a i K h hl hu
    cases xs with
    | nil => simp [pkAs] at h
    | cons x xs =>
      simp only [pkAs] at h
      split at h
      · rename_i a1 b1 h1 h2
        cases h
        simp only [unAs] at hu
        have h3 := unA_ok h1 hl.left hu
        have h4 := ih h2 hl.right h3
        simp only [List.length_append, ← Nat.add_assoc]
        exact h4
      · cases h

theorem unS_ok {hs : List H} {p : PS} {x : SV} {a : List H} {i : Nat} {K : SV → Nat → Option β} (h : pkS p x = some a) (hl : Lies hs i a) (hu : unS hs p i K = some r) : K x (i + a.length) = some r := by
  cases p with
  | u => cases x <;> simp [pkS] at h; subst h; exact hu
  | a p =>
    cases x <;> simp [pkS] at h
    exact unA_ok (K := fun x i => K (.a x) i) h hl hu
  | agg l =>
    cases x <;> simp [pkS] at h
    exact unAs_ok (K := fun cs i => K (.agg cs) i) h hl hu
  | clo f p q =>
    cases x <;> simp [pkS] at h
    obtain ⟨rfl, h⟩ := h
    split at h
    · rename_i y z h1 h2
      cases h
      simp only [unS] at hu
      have h3 := unAs_ok (K := fun a i => unAs hs q i fun b i => K (.clo f a b) i) h1 hl.left hu
      have h4 := unAs_ok (K := fun b i => K (.clo f _ b) i) h2 hl.right h3
      simp only [List.length_append, ← Nat.add_assoc]
      exact h4
    · cases h

theorem unFr_ok {hs : List H} : ∀ {ps : List PS} {xs : List SV} {a : List H} {i : Nat} {K : List SV → Nat → Option β}, pkFr ps xs = some a → Lies hs i a → unFr hs ps i K = some r → K xs (i + a.length) = some r := by
  intro ps
  induction ps with
  | nil =>
    intro xs a i K h hl hu
    cases xs <;> simp [pkFr] at h
    subst h; exact hu
  | cons p ps ih =>
    intro xs a i K h hl hu
    cases xs with
    | nil => simp [pkFr] at h
    | cons x xs =>
      simp only [pkFr] at h
      split at h
      · rename_i a1 b1 h1 h2
        cases h
        simp only [unFr] at hu
        have h3 := unS_ok h1 hl.left hu
        have h4 := ih h2 hl.right h3
        simp only [List.length_append, ← Nat.add_assoc]
        exact h4
      · cases h

theorem sameC_eq : ∀ {vs : List V} {cs : List At}, sameC vs cs = true → cs = vs.map At.v := by
  intro vs
  induction vs with
  | nil =>
    intro cs h
    cases cs with
    | nil => rfl
    | cons _ _ => cases h
  | cons v vs ih =>
    intro cs h
    cases cs with
    | nil => cases v <;> cases h
    | cons c cs =>
      cases c with
      | v x =>
        cases v with
        | bool a =>
          cases x with
          | bool b =>
            simp only [sameC, Bool.and_eq_true, beq_iff_eq] at h
            rw [ih h.2, h.1]; rfl
          | _ => cases h
        | int k a =>
          cases x with
          | int k' b =>
            simp only [sameC, Bool.and_eq_true, decide_eq_true_eq] at h
            rw [ih h.2, h.1.1, h.1.2]; rfl
          | _ => cases h
        | str a =>
          cases x with
          | str b =>
            simp only [sameC, Bool.and_eq_true, beq_iff_eq] at h
            rw [ih h.2, h.1]; rfl
          | _ => cases h
        | _ => cases h
      | _ => cases v <;> cases h

theorem unO_ok {hs : List H} {p : PO} {x : Option LObj} {a : List H} {i : Nat} {K : Option LObj → Nat → Option β} (h : pkO p x = some a) (hl : Lies hs i a) (hu : unO hs p i K = some r) : K x (i + a.length) = some r := by
  cases p with
  | no => cases x <;> simp [pkO] at h; subst h; exact hu
  | box ty ps =>
    cases x with
    | none => simp [pkO] at h
    | some o =>
      cases o <;> simp [pkO] at h
      obtain ⟨rfl, h⟩ := h
      exact unAs_ok (K := fun cs i => K (some (.box ty cs)) i) h hl hu
  | cbox ty vs =>
    cases x with
    | none => simp [pkO] at h
    | some o =>
      cases o <;> simp [pkO] at h
      obtain ⟨⟨rfl, hs⟩, rfl⟩ := h
      rw [sameC_eq hs]
      exact hu
  | ext e sz =>
    cases x with
    | none => simp [pkO] at h
    | some o =>
      cases o <;> simp [pkO] at h
      obtain ⟨⟨rfl, rfl⟩, rfl⟩ := h
      simp only [unO, hL, hl.get] at hu
      exact hu
  | arr e sz =>
    cases x with
    | none => simp [pkO] at h
    | some o =>
      cases o <;> simp [pkO] at h
      obtain ⟨⟨rfl, rfl⟩, rfl⟩ := h
      simp only [unO, hL, hl.get] at hu
      exact hu
  | map =>
    cases x with
    | none => simp [pkO] at h
    | some o =>
      cases o with
      | map z es =>
        cases z <;> simp [pkO] at h
        subst h
        simp only [unO, hM, hl.get] at hu
        exact hu
      | _ => simp [pkO] at h
  | iter =>
    cases x with
    | none => simp [pkO] at h
    | some o =>
      cases o <;> simp [pkO] at h
      subst h
      simp only [unO, hS, hN, hl.get] at hu
      have h2 := Lies.get (Lies.right (a := [_]) hl)
      simp only [List.length_cons, List.length_nil, Nat.zero_add] at h2
      rw [h2] at hu
      exact hu

theorem unOs_ok {hs : List H} : ∀ {ps : List PO} {xs : Objs} {a : List H} {i : Nat} {K : Objs → Nat → Option β}, pkOs ps xs = some a → Lies hs i a → unOs hs ps i K = some r → K xs (i + a.length) = some r := by
  intro ps
  induction ps with
  | nil =>
    intro xs a i K h hl hu
    cases xs <;> simp [pkOs] at h
    subst h; exact hu
  | cons p ps ih =>
    intro xs a i K h hl hu
    cases xs with
    | nil => simp [pkOs] at h
    | cons x xs =>
      simp only [pkOs] at h
      split at h
      · rename_i a1 b1 h1 h2
        cases h
        simp only [unOs] at hu
        have h3 := unO_ok h1 hl.left hu
        have h4 := ih h2 hl.right h3
        simp only [List.length_append, ← Nat.add_assoc]
        exact h4
      · cases h

theorem un_ok {sh : Shape} {hs : List H} {st : St} {f : St → Option β} (h : pk sh st = some hs) (hu : un sh hs f = some r) : f st = some r := by
  unfold pk at h
  split at h
  · rename_i a b h1 h2
    cases h
    have hl : Lies (a ++ b) 0 (a ++ b) := fun k x hk => by simpa using hk
    unfold un at hu
    have h3 := unFr_ok h1 hl.left hu
    have h4 := unOs_ok h2 hl.right h3
    exact h4
  · cases h

theorem pkAny_some : ∀ {l : List Shape} {i : Nat} {st : St} {v : Vs}, pkAny i l st = some v → ∃ j sh, v.1 = i + j ∧ l[j]? = some sh ∧ pk sh st = some v.2 := by
  intro l
  induction l with
  | nil => intro i st v h; cases h
  | cons sh l ih =>
    intro i st v h
    simp only [pkAny] at h
    split at h
    · rename_i hs hpk; cases h; exact ⟨0, sh, rfl, rfl, hpk⟩
    · obtain ⟨j, sh', h1, h2, h3⟩ := ih h
      exact ⟨j + 1, sh', by omega, h2, h3⟩

theorem same_eq {x y : X} (h : x.same y = true) : x = y := by
  cases x <;> cases y <;> simp [X.same] at h <;> first | rfl | (rw [h])

theorem pkExit_some : ∀ {l : List (X × Shape)} {i : Nat} {x : X} {st : St} {v : Vs}, pkExit i l x st = some v → ∃ j sh, v.1 = i + j ∧ l[j]? = some (x, sh) ∧ pk sh st = some v.2 := by
  intro l
  induction l with
  | nil => intro i x st v h; cases h
  | cons e l ih =>
    intro i x st v h
    obtain ⟨x', sh⟩ := e
    simp only [pkExit] at h
    split at h
    · rename_i hx
      have := same_eq hx
      subst this
      split at h
      · rename_i hs hpk; cases h; exact ⟨0, sh, rfl, rfl, hpk⟩
      · obtain ⟨j, sh', h1, h2, h3⟩ := ih h
        exact ⟨j + 1, sh', by omega, h2, h3⟩
    · obtain ⟨j, sh', h1, h2, h3⟩ := ih h
      exact ⟨j + 1, sh', by omega, h2, h3⟩

theorem sel_heads {f : St → Option β} {hs : List H} : ∀ {l : List Shape} {j : Nat} {sh : Shape}, l[j]? = some sh → sel j (heads f hs l) = un sh hs f := by
  intro l
  induction l with
  | nil => intro j sh h; simp at h
  | cons a l ih =>
    intro j sh h
    cases j with
    | zero => simp at h; subst h; rfl
    | succ j => simp only [heads, sel]; exact ih (by simpa using h)

theorem sel_exits {f : X → St → Option β} {hs : List H} : ∀ {l : List (X × Shape)} {j : Nat} {x : X} {sh : Shape}, l[j]? = some (x, sh) → sel j (exits f hs l) = un sh hs (f x) := by
  intro l
  induction l with
  | nil => intro j x sh h; simp at h
  | cons a l ih =>
    intro j x sh h
    cases j with
    | zero => simp at h; subst h; rfl
    | succ j => simp only [exits, sel]; exact ih (by simpa using h)
end

/-! ### Code -/
section
variable {call : CallK} {callE : CallT} {mm : Bool} {F n0 : Nat} {ann : Ann}

theorem loop_ok {la : LoopAnn} {live : List Nat} {step : St → Option (X × St)} {body : Vs → Option (Vs ⊕ Vs)}
    (hb : ∀ (st : St) (v : Vs) (s : Vs ⊕ Vs), pkAny 0 la.heads (canon n0 live st) = some v → body v = some s → ∃ x st', step st = some (x, st') ∧ (match x with
      | .n => (match pkAny 0 la.heads (canon n0 live st') with | some v => some (.inl v) | none => none)
      | x => (match pkExit 0 la.exits x st' with | some v => some (.inr v) | none => none)) = some s) :
    ∀ (n : Nat) (st : St) (v o : Vs), pkAny 0 la.heads (canon n0 live st) = some v → loopK body n v = some o → ∃ x st', evLoop step n st = some (x, st') ∧ pkExit 0 la.exits x st' = some o := by
  intro n
  induction n with
  | zero => intro st v o _ h; cases h
  | succ n ih =>
    intro st v o hv h
    simp only [loopK, Option.bind_eq_some_iff] at h
    obtain ⟨s, h1, h2⟩ := h
    obtain ⟨x, st', h3, h4⟩ := hb st v s hv h1
    simp only [evLoop, h3]
    cases x with
    | n =>
      simp only at h4
      split at h4
      · rename_i v' hv'
        cases h4
        exact ih st' v' o hv' h2
      · cases h4
    | ret =>
      simp only at h4
      split at h4
      · rename_i v' hv'
        cases h4
        cases h2
        exact ⟨_, _, rfl, hv'⟩
      · cases h4
    | ex j =>
      simp only at h4
      split at h4
      · rename_i v' hv'
        cases h4
        cases h2
        exact ⟨_, _, rfl, hv'⟩
      · cases h4

theorem stCode_ok (hc : CallsAs call callE) : ∀ (c : SC) (i : Nat) {β : Type} (st : St) (K : X → St → Option β) (r : β), stCode mm call F n0 ann i c st K = some r → ∃ x st', evCode mm callE F n0 c st = some (x, st') ∧ K x st' = some r := by
  intro c
  induction c with
  | skip => intro i β st K r h; exact ⟨_, _, rfl, h⟩
  | region ops draw =>
    intro i β st K r h
    simp only [stCode] at h
    obtain ⟨st', h1, h2⟩ := stRegion_ok hc h
    exact ⟨_, st', by simp only [evCode, h1], h2⟩
  | seq a b ia ib =>
    intro i β st K r h
    simp only [stCode] at h
    obtain ⟨x, st1, h1, h2⟩ := ia _ _ _ _ h
    cases x with
    | n =>
      obtain ⟨x, st2, h3, h4⟩ := ib _ _ _ _ h2
      exact ⟨x, st2, by simp only [evCode, h1, h3], h4⟩
    | ret => exact ⟨_, st1, by simp only [evCode, h1], h2⟩
    | ex j => exact ⟨_, st1, by simp only [evCode, h1], h2⟩
  | cond c a b ia ib =>
    intro i β st K r h
    simp only [stCode] at h
    split at h
    · rename_i t ht
      rw [cond_some] at h
      rcases h with ⟨rfl, h⟩ | ⟨rfl, h⟩
      · obtain ⟨x, st', h1, h2⟩ := ia _ _ _ _ h
        exact ⟨x, st', by simp only [evCode, ht, h1], h2⟩
      · obtain ⟨x, st', h1, h2⟩ := ib _ _ _ _ h
        exact ⟨x, st', by simp only [evCode, ht, h1], h2⟩
    · cases h
  | block id b ib =>
    intro i β st K r h
    simp only [stCode] at h
    obtain ⟨x, st1, h1, h2⟩ := ib _ _ _ _ h
    cases x with
    | n => exact ⟨_, st1, by simp only [evCode, h1], h2⟩
    | ret => exact ⟨_, st1, by simp only [evCode, h1], h2⟩
    | ex j => exact ⟨_, st1, by simp only [evCode, h1], h2⟩
  | loop live b ib =>
    intro i β st K r h
    simp only [stCode] at h
    split at h
    · rename_i la hla
      split at h
      · rename_i v0 hv0
        rw [Option.bind_eq_some_iff] at h
        obtain ⟨o, h1, h2⟩ := h
        have hl := loop_ok (n0 := n0) (la := la) (live := live) (step := fun st => evCode mm callE F n0 b (canon n0 live st)) (fun st v s hv hs => by
          obtain ⟨j, sh, q1, q2, q3⟩ := pkAny_some hv
          simp only [Nat.zero_add] at q1
          rw [q1, sel_heads q2] at hs
          have h3 := un_ok q3 hs
          exact ib _ _ _ _ h3) F st v0 o hv0 h1
        obtain ⟨x, st', h3, h4⟩ := hl
        obtain ⟨j, sh, q1, q2, q3⟩ := pkExit_some h4
        simp only [Nat.zero_add] at q1
        rw [q1, sel_exits q2] at h2
        exact ⟨x, st', by simp only [evCode, h3], un_ok q3 h2⟩
      · cases h
    · cases h
  | exit id l => intro i β st K r h; exact ⟨_, _, rfl, h⟩
  | ret l => intro i β st K r h; exact ⟨_, _, rfl, h⟩
  | bad => intro i β st K r h; cases h

theorem frzE_ok {f : Objs → At → Option (V × Objs)} (hf : ∀ os x, f os (.v x) = some (x, os)) : ∀ {es : List (V × T2)} {vs : List V} {os : Objs}, frzE es = some vs → freezeM f os es = some (vs, os) := by
  intro es
  induction es with
  | nil => intro vs os h; cases h; rfl
  | cons e es ih =>
    intro vs os h
    obtain ⟨k, x⟩ := e
    cases x with
    | agg cs => simp [frzE] at h
    | a x =>
      cases x with
      | v x =>
        simp only [frzE] at h
        split at h
        · rename_i l hl
          cases h
          simp only [freezeM, freezeT, hf, ih hl]
        · cases h
      | _ => simp [frzE] at h

theorem freezeA_v (d : Nat) (os : Objs) (x : V) : freezeA d os (.v x) = some (x, os) := by cases d <;> rfl

theorem sfL_ok {β : Type} {r : β} {f : Objs → At → (V → Objs → Option β) → Option β} {g : Objs → At → Option (V × Objs)} (hf : ∀ os x K, f os x K = some r → ∃ v os', g os x = some (v, os') ∧ K v os' = some r) :
    ∀ {l : List At} {os : Objs} {K : List V → Objs → Option β}, sfL f os l K = some r → ∃ vs os', freezeL g os l = some (vs, os') ∧ K vs os' = some r := by
  intro l
  induction l with
  | nil => intro os K h; exact ⟨[], os, rfl, h⟩
  | cons x l ih =>
    intro os K h
    simp only [sfL] at h
    obtain ⟨v, os1, h1, h2⟩ := hf _ _ _ h
    obtain ⟨vs, os2, h3, h4⟩ := ih h2
    exact ⟨_, os2, by simp only [freezeL, h1, h3], h4⟩

theorem sfA_ok {β : Type} {r : β} : ∀ (d : Nat) (os : Objs) (x : At) (K : V → Objs → Option β), sfA d os x K = some r → ∃ v os', freezeA d os x = some (v, os') ∧ K v os' = some r := by
  intro d
  induction d with
  | zero =>
    intro os x K h
    cases x with
    | v x => exact ⟨x, os, rfl, h⟩
    | own i =>
      simp only [sfA] at h
      split at h
      · rename_i hi; exact ⟨_, os, by simp only [freezeA, hi], h⟩
      · rename_i hi; exact ⟨_, _, by simp only [freezeA, hi], h⟩
      · cases h
    | loc i o => cases o <;> simp [sfA] at h
    | _ => simp [sfA] at h
  | succ d ih =>
    intro os x K h
    cases x with
    | v x => exact ⟨x, os, rfl, h⟩
    | own i =>
      simp only [sfA] at h
      split at h
      · rename_i hi; exact ⟨_, os, by simp only [freezeA, hi], h⟩
      · rename_i hi; exact ⟨_, _, by simp only [freezeA, hi], h⟩
      · cases h
    | loc i o =>
      cases o with
      | succ o => simp [sfA] at h
      | zero =>
        simp only [sfA] at h
        split at h
        · rename_i ty cs hi
          obtain ⟨vs, os1, h1, h2⟩ := sfL_ok ih h
          exact ⟨_, os1, by simp only [freezeA, hi, h1], h2⟩
        · cases h
    | mapr i =>
      simp only [sfA] at h
      split at h
      · rename_i es hi
        rw [Option.bind_eq_some_iff] at h
        obtain ⟨vs, h1, h2⟩ := h
        exact ⟨_, _, by simp only [freezeA, hi, frzE_ok (freezeA_v d) h1], h2⟩
      · cases h
    | _ => simp [sfA] at h

theorem sfT_ok {β : Type} {r : β} {os : Objs} {x : T2} {K : V → Objs → Option β} (h : sfT os x K = some r) : ∃ v os', freezeT (freezeA depth) os x = some (v, os') ∧ K v os' = some r := by
  cases x with
  | a x => exact sfA_ok _ _ _ _ h
  | agg cs =>
    simp only [sfT] at h
    obtain ⟨vs, os1, h1, h2⟩ := sfL_ok (sfA_ok depth) h
    exact ⟨_, os1, by simp only [freezeT, h1], h2⟩

theorem sfTs_ok {β : Type} {r : β} : ∀ {l : List T2} {os : Objs} {K : List V → Objs → Option β}, sfTs os l K = some r → ∃ vs os', freezeTs os l = some (vs, os') ∧ K vs os' = some r := by
  intro l
  induction l with
  | nil => intro os K h; exact ⟨[], os, rfl, h⟩
  | cons x l ih =>
    intro os K h
    simp only [sfTs] at h
    obtain ⟨v, os1, h1, h2⟩ := sfT_ok h
    obtain ⟨vs, os2, h3, h4⟩ := ih h2
    exact ⟨_, os2, by simp only [freezeTs, h1, h3], h4⟩

theorem sfS_ok {β : Type} {r : β} {os : Objs} {sv : SV} {K : V → Objs → Option β} (h : sfS os sv K = some r) : ∃ v os', freezeS os sv = some (v, os') ∧ K v os' = some r := by
  cases sv with
  | a x => exact sfA_ok _ _ _ _ h
  | agg cs =>
    simp only [sfS] at h
    obtain ⟨vs, os1, h1, h2⟩ := sfL_ok (sfA_ok depth) h
    exact ⟨_, os1, by simp only [freezeS, h1], h2⟩
  | tup vs =>
    simp only [sfS] at h
    obtain ⟨vs, os1, h1, h2⟩ := sfTs_ok h
    exact ⟨_, os1, by simp only [freezeS, h1], h2⟩
  | _ => cases h

theorem stFinish_ok {β : Type} {r : β} {frz keep : Bool} {n : Nat} {sv : SV} {os : Objs} {K : SV → Objs → Option β} (h : stFinish frz keep n sv os K = some r) : ∃ y, finish keep n sv os = some y ∧ K y.sv y.objs = some r := by
  unfold stFinish at h
  split at h
  · rename_i hk
    exact ⟨_, by simp only [finish, hk, if_true], h⟩
  · rename_i hk
    split at h
    · obtain ⟨v, os1, h1, h2⟩ := sfS_ok h
      exact ⟨_, by simp only [finish, hk, h1]; rfl, h2⟩
    · split at h
      · rename_i y hy; exact ⟨y, hy, h⟩
      · cases h

theorem stFn_ok (hc : CallsAs call callE) {fn : SFn} {args : List SV} {os : Objs} {β : Type} {K : SV → Objs → Option β} {r : β} (h : stFn call F ann fn args os K = some r) : ∃ y, evFn callE F fn args os = some y ∧ K y.sv y.objs = some r := by
  unfold stFn at h
  obtain ⟨x, st, h1, h2⟩ := stCode_ok hc _ _ _ _ _ h
  unfold evFn
  rw [h1]
  cases x with
  | ex j => cases h2
  | n =>
    simp only at h2 ⊢
    split at h2
    · rename_i l hl
      rw [hl]
      exact stFinish_ok h2
    · cases h2
  | ret =>
    simp only at h2 ⊢
    split at h2
    · rename_i l hl
      rw [hl]
      exact stFinish_ok h2
    · cases h2
end

/-- What is told, in the evaluator's words. -/
def toE (tab : ToldK) : CallT := fun f args os => match tab f (viewL os args) os with
  | some t => t R (fun sv os => some ⟨sv, os⟩)
  | none => none

/-- Told calls are binds. -/
def Binds (tab : ToldK) : Prop := ∀ f args os t, tab f args os = some t → ∀ {β : Type} (K : SV → Objs → Option β) (r : β), t β K = some r → ∃ y, t R (fun sv os => some (R.mk sv os)) = some y ∧ K y.sv y.objs = some r

theorem stN_ok {tab : ToldK} {code : FuncId → Option SFn} {ann : FuncId → Nat → Ann} {F : Nat} (hb : Binds tab) : ∀ d, CallsAs (stN tab code ann F d) (callM (toE tab) code F d) := by
  have told : ∀ {f args os t} {β : Type} {K : SV → Objs → Option β} {r : β}, tab f (viewL os args) os = some t → t β K = some r → ∃ y, toE tab f args os = some y ∧ K y.sv y.objs = some r := by
    intro f args os t β K r h1 h2
    obtain ⟨y, h3, h4⟩ := hb f _ os t h1 K r h2
    exact ⟨y, by simp only [toE, h1]; exact h3, h4⟩
  intro d
  induction d with
  | zero =>
    intro β f args os K r h
    simp only [stN] at h
    split at h
    · rename_i t ht; exact told ht h
    · cases h
  | succ d ih =>
    intro β f args os K r h
    simp only [stN] at h
    split at h
    · rename_i t ht
      obtain ⟨y, h1, h2⟩ := told ht h
      exact ⟨y, by simp only [callM, h1], h2⟩
    · rename_i ht
      split at h
      · rename_i fn hfn
        obtain ⟨y, h1, h2⟩ := stFn_ok ih h
        have : toE tab f args os = none := by simp only [toE, ht]
        exact ⟨y, by simp only [callM, this, hfn]; exact h1, h2⟩
      · cases h
end Go.Ev
