/- '==' and the checks of a key at types whose cells are numbers, bools and strings. -/
import Derived.Test.YtmlhdhndjgdoaaaDoorCuOpsB
import Derived.Laws.StructEq
import Derived.ChangeKeysEq
import Derived.MapKept
namespace Go.Ev

theorem eqL_append {ks ks' : List FK} {a b a' b' : List V} {r : Bool} (h1 : a.length = ks.length) (h2 : b.length = ks.length) (h : eqL (ks ++ ks') (a ++ a') (b ++ b') = some r) :
    (eqL ks a b = some false ∧ r = false) ∨ (eqL ks a b = some true ∧ eqL ks' a' b' = some r) := by
  induction ks generalizing a b with
  | nil =>
    cases a with
    | nil => cases b with
      | nil => exact .inr ⟨rfl, h⟩
      | cons => simp at h2
    | cons => simp at h1
  | cons k ks ih =>
    cases a with
    | nil => simp at h1
    | cons x a => cases b with
      | nil => simp at h2
      | cons y b =>
        simp only [List.cons_append, eqL] at h ⊢
        cases hxy : eqF k x y with
        | none => rw [hxy] at h; cases h
        | some e =>
          rw [hxy] at h
          cases e with
          | true => exact ih (by simpa using h1) (by simpa using h2) h
          | false => cases h; exact .inl ⟨rfl, rfl⟩

def FV (S : Fz) (g : Bool) (xs : List V) (v : Value) : Prop :=
  match g with
  | true => ∃ vs, v = .agg vs.toArray ∧ Pw (Rep S) xs vs
  | false => ∃ x, xs = [x] ∧ Rep S x v

section
variable {P : Program} {S : Fz} {w : World}

theorem FV.part {g : Bool} {t : TypeId} {n q : Nat} {xs : List V} {vs : List Value} (hg : aggT P t = some g) (hn : sizeT P t = some n) (h1 : g = false → n = 1) (hp : Pw (Rep S) xs vs) (hl : q + n ≤ xs.length) :
    ∃ u, (part t vs.toArray q).run P w = .ok u w ∧ FV S g ((xs.drop q).take n) u := by
  cases g with
  | true =>
    refine ⟨.agg ((vs.drop q).take n).toArray, ?_, _, rfl, (hp.drop q).take n⟩
    simp [Go.part, aggT_run hg, sizeT_run hn]
  | false =>
    have := h1 rfl
    subst this
    have hx : xs[q]? = some xs[q] := List.getElem?_eq_getElem (by omega)
    obtain ⟨v, h2, h3⟩ := hp.get hx
    refine ⟨v, ?_, xs[q], ?_, h3⟩
    · simp [Go.part, aggT_run hg, h2]
    · rw [List.drop_eq_getElem_cons (by omega), List.take_succ_cons, List.take_zero]

theorem flatK_agg {n : Nat} {t : TypeId} {ks : List FK} (h : flatK P n t = some ks) : ∃ g, aggT P t = some g ∧ sizeT P t = some ks.length ∧ (g = false → ks.length = 1) := by
  cases n with
  | zero => simp [flatK] at h
  | succ n =>
    unfold flatK at h
    split at h
    · rename_i k hu hk
      split at h
      · cases h; subst k; exact ⟨false, by simp [aggT, hu], hk, fun _ => rfl⟩
      · cases h
    · rename_i k hu hk
      split at h
      · cases h; subst k; exact ⟨false, by simp [aggT, hu], hk, fun _ => rfl⟩
      · cases h
    · rename_i k hu hk
      split at h
      · cases h; subst k; exact ⟨false, by simp [aggT, hu], hk, fun _ => rfl⟩
      · cases h
    · rename_i fs k hu hk
      split at h
      · split at h
        · split at h
          · rename_i hl
            cases h
            rw [hl]
            exact ⟨true, by simp [aggT, hu], hk, fun h => by cases h⟩
          · cases h
        · cases h
      · cases h
    · rename_i m e k hu hk
      split at h
      · rename_i ks' m' h1 h2
        split at h
        · rename_i hc
          cases h
          refine ⟨true, by simp [aggT, hu], ?_, fun h => by cases h⟩
          rw [hk, hc.2, ← hc.1]
          simp
        · cases h
      · cases h
    · cases h

def EqFlat (P : Program) (S : Fz) (d : Nat) (t : TypeId) (ks : List FK) : Prop :=
  ∀ (w : World) (g : Bool) (xs ys : List V) (vx vy : Value) (r : Bool), aggT P t = some g → xs.length = ks.length → ys.length = ks.length → FV S g xs vx → FV S g ys vy → eqL ks xs ys = some r → (Op.equalIn d t vx vy).run P w = .ok r w

theorem take_drop_split {α : Type} (l : List α) (q n : Nat) : l.drop q = (l.drop q).take n ++ l.drop (q + n) := by
  rw [← List.drop_drop, List.take_append_drop]

theorem run_eqFields_flat {d m : Nat} {xs ys : List V} {vx vy : List Value} (hx : Pw (Rep S) xs vx) (hy : Pw (Rep S) ys vy)
    (hp : ∀ t ks, flatK P m t = some ks → EqFlat P S d t ks) :
    ∀ (fs : List Field) (q k : Nat) (ks : List FK) (r : Bool), tiles P fs q = some k → fieldsK (flatK P m) fs = some ks → q + ks.length = xs.length → q + ks.length = ys.length → eqL ks (xs.drop q) (ys.drop q) = some r →
    (Op.eqFields d vx.toArray vy.toArray fs).run P w = .ok r w
  | [], q, k, ks, r, ht, hk, h1, h2, he => by
    simp only [fieldsK, Option.some.injEq] at hk
    subst hk
    rw [List.drop_eq_nil_of_le (by simp at h1; omega), List.drop_eq_nil_of_le (by simp at h2; omega)] at he
    simp only [eqL, Option.some.injEq] at he
    subst he
    simp [Op.eqFields]
  | f :: fs, q, k, ks, r, ht, hk, h1, h2, he => by
    simp only [fieldsK] at hk
    split at hk
    · cases hk
    · rename_i hname
      split at hk
      · rename_i ka kb hka hkb
        cases hk
        simp only [tiles] at ht
        obtain ⟨g, hg, hn, hone⟩ := flatK_agg hka
        rw [hn] at ht
        simp only at ht
        split at ht
        · rename_i ho
          subst ho
          simp only [List.length_append] at h1 h2
          obtain ⟨a, pa, fa⟩ := FV.part (w := w) (q := f.offset) hg hn hone hx (by omega)
          obtain ⟨b, pb, fb⟩ := FV.part (w := w) (q := f.offset) hg hn hone hy (by omega)
          rw [take_drop_split xs f.offset ka.length, take_drop_split ys f.offset ka.length] at he
          have hl1 : ((xs.drop f.offset).take ka.length).length = ka.length := by simp; omega
          have hl2 : ((ys.drop f.offset).take ka.length).length = ka.length := by simp; omega
          rcases eqL_append hl1 hl2 he with ⟨e1, rfl⟩ | ⟨e1, e2⟩
          · have p3 := hp f.type ka hka w g _ _ a b false hg hl1 hl2 fa fb e1
            simp [Op.eqFields, hname, pa, pb, p3]
          · have p3 := hp f.type ka hka w g _ _ a b true hg hl1 hl2 fa fb e1
            have := run_eqFields_flat hx hy hp fs (f.offset + ka.length) k kb r ht hkb (by omega) (by omega) e2
            simp [Op.eqFields, hname, pa, pb, p3, this]
        · cases ht
      · cases hk

theorem run_eqItems_flat {d : Nat} {e : TypeId} {g : Bool} {ks : List FK} {xs ys : List V} {vx vy : List Value} (hx : Pw (Rep S) xs vx) (hy : Pw (Rep S) ys vy) (hg : aggT P e = some g) (hm : sizeT P e = some ks.length) (h1 : g = false → ks.length = 1)
    (hp : EqFlat P S d e ks) :
    ∀ (n i : Nat) (r : Bool), xs.length = (i + n) * ks.length → ys.length = (i + n) * ks.length → eqL (List.replicate n ks).flatten (xs.drop (i * ks.length)) (ys.drop (i * ks.length)) = some r →
      (Op.eqItems d e ks.length vx.toArray vy.toArray (List.range' i n)).run P w = .ok r w
  | 0, i, r, hlx, hly, he => by
    rw [List.drop_eq_nil_of_le (by rw [hlx]; simp), List.drop_eq_nil_of_le (by rw [hly]; simp)] at he
    simp only [List.replicate_zero, List.flatten_nil, eqL, Option.some.injEq] at he
    subst he
    simp [Op.eqItems]
  | n + 1, i, r, hlx, hly, he => by
    have hle : i * ks.length + ks.length ≤ xs.length := by rw [hlx, ← Nat.succ_mul]; exact Nat.mul_le_mul_right _ (by omega)
    have hle' : i * ks.length + ks.length ≤ ys.length := by rw [hly, ← Nat.succ_mul]; exact Nat.mul_le_mul_right _ (by omega)
    obtain ⟨a, pa, fa⟩ := FV.part (w := w) (q := i * ks.length) hg hm h1 hx hle
    obtain ⟨b, pb, fb⟩ := FV.part (w := w) (q := i * ks.length) hg hm h1 hy hle'
    rw [take_drop_split xs (i * ks.length) ks.length, take_drop_split ys (i * ks.length) ks.length, List.replicate_succ, List.flatten_cons] at he
    have hl1 : ((xs.drop (i * ks.length)).take ks.length).length = ks.length := by simp; omega
    have hl2 : ((ys.drop (i * ks.length)).take ks.length).length = ks.length := by simp; omega
    rw [List.range'_succ]
    rcases eqL_append hl1 hl2 he with ⟨e1, rfl⟩ | ⟨e1, e2⟩
    · have p3 := hp w g _ _ a b false hg hl1 hl2 fa fb e1
      simp [Op.eqItems, pa, pb, p3]
    · have p3 := hp w g _ _ a b true hg hl1 hl2 fa fb e1
      have := run_eqItems_flat hx hy hg hm h1 hp n (i + 1) r (by rw [hlx]; congr 1; omega) (by rw [hly]; congr 1; omega) (by rw [Nat.succ_mul]; exact e2)
      simp [Op.eqItems, pa, pb, p3, this]

theorem cellsOf_of {t : TypeId} {n : Nat} (h : sizeT P t = some n) : P.cellsOf t = n := by
  unfold sizeT at h; simp [Program.cellsOf, h]

theorem eqFlat : ∀ (n : Nat) (t : TypeId) (ks : List FK), flatK P n t = some ks → ∀ d, n ≤ d → EqFlat P S d t ks := by
  intro n
  induction n with
  | zero => intro t ks h; simp [flatK] at h
  | succ n ih =>
    intro t ks h d hd w g xs ys vx vy r hg hlx hly fx fy he
    obtain ⟨d, rfl⟩ : ∃ m, d = m + 1 := ⟨d - 1, by omega⟩
    have one : ∀ k, g = false → ks = [k] → ∃ x y, Rep S x vx ∧ Rep S y vy ∧ eqF k x y = some r := fun k hgf hk => by
      subst hgf hk
      obtain ⟨x, rfl, hx⟩ := fx
      obtain ⟨y, rfl, hy⟩ := fy
      refine ⟨x, y, hx, hy, ?_⟩
      simp only [eqL] at he
      split at he <;> simp_all
    unfold flatK at h
    split at h
    · rename_i k' hu hk'
      split at h
      · cases h
        obtain ⟨x, y, hx, hy, hxy⟩ := one .b (by simp [aggT, hu] at hg; exact hg) rfl
        cases x <;> cases y <;> simp [eqF] at hxy
        cases hx; cases hy
        simp [Op.equalIn, run_underlying hu, hxy]
      · cases h
    · rename_i k' hu hk'
      split at h
      · cases h
        obtain ⟨x, y, hx, hy, hxy⟩ := one .i (by simp [aggT, hu] at hg; exact hg) rfl
        cases x <;> cases y <;> simp [eqF] at hxy
        cases hx; cases hy
        obtain ⟨rfl, hxy⟩ := hxy
        simp [Op.equalIn, run_underlying hu, hxy]
      · cases h
    · rename_i k' hu hk'
      split at h
      · cases h
        obtain ⟨x, y, hx, hy, hxy⟩ := one .s (by simp [aggT, hu] at hg; exact hg) rfl
        cases x <;> cases y <;> simp [eqF] at hxy
        cases hx; cases hy
        rename_i a b
        have e : ((⟨a.toArray⟩ : ByteArray) == ⟨b.toArray⟩) = (a == b) := by
          rw [beq_toListBytes]
          simp
        simp [Op.equalIn, run_underlying hu, e, hxy]
      · cases h
    · rename_i fs k' hu hk'
      split at h
      · rename_i hc
        split at h
        · rename_i ks' hks
          split at h
          · cases h
            have hgt : g = true := by simp [aggT, hu] at hg; exact hg
            subst hgt
            obtain ⟨vs, rfl, hx⟩ := fx
            obtain ⟨us, rfl, hy⟩ := fy
            have hf : P.fieldsOf t = fs := by simp [Program.fieldsOf, hu]
            rw [run_equalIn_struct w d t _ _ (by rw [hf]; exact hu) hc.1, hf]
            exact run_eqFields_flat hx hy (fun t ks h => ih t ks h d (by omega)) fs.toList 0 _ ks r hc.2 hks (by omega) (by omega) (by simpa using he)
          · cases h
        · cases h
      · cases h
    · rename_i m e k' hu hk'
      split at h
      · rename_i ks' m' h1 h2
        split at h
        · rename_i hc
          cases h
          have hgt : g = true := by simp [aggT, hu] at hg; exact hg
          subst hgt
          obtain ⟨vs, rfl, hx⟩ := fx
          obtain ⟨us, rfl, hy⟩ := fy
          obtain ⟨ge, hge, hke, hone⟩ := flatK_agg h1
          obtain ⟨i, hi, _⟩ := sizeT_info hke
          rw [run_equalIn_array w d _ _ hu hi, cellsOf_of hke, List.range_eq_range']
          exact run_eqItems_flat hx hy hge hke hone (ih e ks' h1 d (by omega)) m 0 r (by rw [hlx]; simp) (by rw [hly]; simp) (by simpa using he)
        · cases h
      · cases h
    · cases h

/-! ### A key is checked -/
def ChkFlat (P : Program) (S : Fz) (em : Bool) (d : Nat) (t : TypeId) (ks : List FK) : Prop :=
  ∀ (w : World) (g : Bool) (xs : List V) (vx : Value), aggT P t = some g → xs.length = ks.length → FV S g xs vx → (Instr.checkKey em d t vx).run P w = .ok () w

theorem chkFlat (em : Bool) : ∀ (n : Nat) (t : TypeId) (ks : List FK), flatK P n t = some ks → ∀ d, n ≤ d → ChkFlat P S em d t ks := by
  intro n
  induction n with
  | zero => intro t ks h; simp [flatK] at h
  | succ n ih =>
    intro t ks h d hd w g xs vx hg hlx fx
    obtain ⟨d, rfl⟩ : ∃ m, d = m + 1 := ⟨d - 1, by omega⟩
    unfold flatK at h
    split at h
    · rename_i k' hu hk'
      have hgf : g = false := by simp [aggT, hu] at hg; exact hg
      subst hgf
      simp [Instr.checkKey, run_underlying hu]
    · rename_i k' hu hk'
      simp [Instr.checkKey, run_underlying hu]
    · rename_i k' hu hk'
      simp [Instr.checkKey, run_underlying hu]
    · rename_i fs k' hu hk'
      split at h
      · rename_i hc
        split at h
        · rename_i ks' hks
          split at h
          · cases h
            have hgt : g = true := by simp [aggT, hu] at hg; exact hg
            subst hgt
            obtain ⟨vs, rfl, hx⟩ := fx
            rw [Instr.checkKey]
            simp only [Sem.run_bind, run_underlying hu, Result.andThen_ok]
            rw [← Array.forIn_toList]
            have key : ∀ (L : List Field) (q k : Nat) (kl : List FK), tiles P L q = some k → fieldsK (flatK P n) L = some kl → q + kl.length = xs.length →
                (forIn (m := Sem) L PUnit.unit fun f _ => (if f.name ≠ "_" then (do Instr.checkKey em d f.type (← part f.type vs.toArray f.offset); pure (ForInStep.yield PUnit.unit)) else pure (ForInStep.yield PUnit.unit))).run P w = .ok PUnit.unit w := by
              intro L
              induction L with
              | nil => intros; simp
              | cons f L ihL =>
                intro q k kl ht hkl hq
                simp only [fieldsK] at hkl
                split at hkl
                · cases hkl
                · rename_i hname
                  split at hkl
                  · rename_i ka kb hka hkb
                    cases hkl
                    simp only [tiles] at ht
                    obtain ⟨g, hg, hn, hone⟩ := flatK_agg hka
                    rw [hn] at ht
                    simp only at ht
                    split at ht
                    · rename_i ho
                      subst ho
                      simp only [List.length_append] at hq
                      obtain ⟨a, pa, fa⟩ := FV.part (w := w) (q := f.offset) hg hn hone hx (by omega)
                      have p2 := ih f.type ka hka d (by omega) w g _ a hg (by simp; omega) fa
                      have p3 := ihL (f.offset + ka.length) k kb ht hkb (by omega)
                      simp only [List.forIn_cons, Sem.run_bind, hname, ne_eq, not_false_eq_true, if_true, Result.andThen_ok, pa, p2, Sem.run_pure]
                      simpa using p3
                    · cases ht
                  · cases hkl
            have := key fs.toList 0 _ ks hc.2 hks (by omega)
            simp at this ⊢
            rw [this]
            rfl
          · cases h
        · cases h
      · cases h
    · rename_i m e k' hu hk'
      split at h
      · rename_i ks' m' h1 h2
        split at h
        · rename_i hc
          cases h
          have hgt : g = true := by simp [aggT, hu] at hg; exact hg
          subst hgt
          obtain ⟨vs, rfl, hx⟩ := fx
          obtain ⟨ge, hge, hke, hone⟩ := flatK_agg h1
          rw [Instr.checkKey]
          simp only [Sem.run_bind, run_underlying hu, Result.andThen_ok]
          simp only [Std.Legacy.Range.forIn_eq_forIn_range', Std.Legacy.Range.size, Nat.sub_zero, Nat.add_one_sub_one, Nat.div_one]
          have key : ∀ (n' i : Nat), (i + n') * ks'.length = xs.length →
              (forIn (m := Sem) (List.range' i n') PUnit.unit fun i r => do Instr.checkKey em d e (← part e vs.toArray (i * (← sizeOf e))); pure (ForInStep.yield PUnit.unit)).run P w = .ok PUnit.unit w := by
            intro n'
            induction n' with
            | zero => intros; simp
            | succ n' ihn =>
              intro i hi
              have hle : i * ks'.length + ks'.length ≤ xs.length := by rw [← hi, ← Nat.succ_mul]; exact Nat.mul_le_mul_right _ (by omega)
              obtain ⟨a, pa, fa⟩ := FV.part (w := w) (q := i * ks'.length) hge hke hone hx hle
              have p2 := ih e ks' h1 d (by omega) w ge _ a hge (by simp; omega) fa
              rw [List.range'_succ]
              simp only [List.forIn_cons, Sem.run_bind, sizeT_run hke, Result.andThen_ok, pa, p2, Sem.run_pure]
              simpa using ihn (i + 1) (by rw [← hi]; congr 1; omega)
          have := key m 0 (by rw [hlx]; simp)
          simp at this ⊢
          rw [this]
          rfl
        · cases h
      · cases h
    · cases h

end
end Go.Ev
