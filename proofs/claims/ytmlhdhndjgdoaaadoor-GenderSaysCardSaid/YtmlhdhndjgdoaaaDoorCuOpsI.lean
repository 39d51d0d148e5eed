/- The operations, ninth part: maps. -/
import Derived.Test.YtmlhdhndjgdoaaaDoorCuOpsH
import Derived.MapKept
namespace Go.Ev

/-! ### Keys -/
def V.plain : V → Bool
  | .bool _ | .int _ _ | .str _ => true
  | _ => false

theorem eqF_true {k : FK} {a b : V} (h : eqF k a b = some true) : a = b ∧ a.plain = true := by
  unfold eqF at h
  split at h
  · simp at h; subst h; exact ⟨rfl, rfl⟩
  · split at h
    · rename_i hk; simp at h; subst hk h; exact ⟨rfl, rfl⟩
    · cases h
  · simp at h; subst h; exact ⟨rfl, rfl⟩
  · cases h

theorem eqL_true : ∀ {ks : List FK} {a b : List V}, eqL ks a b = some true → a = b ∧ a.all V.plain = true := by
  intro ks
  induction ks with
  | nil =>
    intro a b h
    cases a <;> cases b <;> simp [eqL] at h ⊢
  | cons k ks ih =>
    intro a b h
    cases a with
    | nil => simp [eqL] at h
    | cons x a =>
      cases b with
      | nil => simp [eqL] at h
      | cons y b =>
        simp only [eqL] at h
        split at h
        · rename_i he
          obtain ⟨h1, h2⟩ := eqF_true he
          obtain ⟨h3, h4⟩ := ih h
          subst h1 h3
          exact ⟨rfl, by simp [h2, h4]⟩
        · cases h
        · cases h

theorem keyEq_true {kt : KT} {x y : V} (h : keyEq kt x y = some true) : x = y ∧ ((∃ cs, x = .agg cs ∧ cs.all V.plain = true) ∨ x.plain = true) := by
  unfold keyEq at h
  split at h
  · rename_i a b h1 h2
    obtain ⟨h3, h4⟩ := eqL_true h
    subst h3
    unfold keyCells at h1 h2
    split at h1
    · rename_i cs
      split at h1
      · rename_i hc
        cases h1
        split at h2
        · split at h2
          · cases h2; exact ⟨rfl, .inl ⟨_, rfl, h4⟩⟩
          · cases h2
        · cases h2
        · split at h2
          · rename_i hc2; rw [hc.1] at hc2; cases hc2.1
          · cases h2
      · cases h1
    · cases h1
    · split at h1
      · rename_i hc
        cases h1
        split at h2
        · split at h2
          · rename_i hc2; rw [hc.1] at hc2; cases hc2.1
          · cases h2
        · cases h2
        · split at h2
          · cases h2
            exact ⟨rfl, .inr (by simpa using h4)⟩
          · exact absurd hc (by assumption)
      · cases h1
  · cases h

theorem bytes_beq (a b : List UInt8) : ((⟨a.toArray⟩ : ByteArray) == ⟨b.toArray⟩) = (a == b) := by
  rw [beq_toListBytes]
  simp

theorem plain_unique {S : Fz} {x : V} {v v' : Value} (hx : x.plain = true) (h : Rep S x v) (h' : Rep S x v') : v = v' ∧ ∀ n, Instr.sameBits n v v = true := by
  cases x <;> simp [V.plain] at hx
  · cases h; cases h'; exact ⟨rfl, fun n => by cases n <;> simp [Instr.sameBits]⟩
  · cases h; cases h'; exact ⟨rfl, fun n => by cases n <;> simp [Instr.sameBits]⟩
  · cases h; cases h'; exact ⟨rfl, fun n => by cases n <;> simp [Instr.sameBits, bytes_beq]⟩

/-- Two memory values of one key are one value. -/
theorem key_unique {S : Fz} {kt : KT} {x y : V} {v v' : Value} (hk : keyEq kt x y = some true) (h : Rep S x v) (h' : Rep S y v') : x = y ∧ v = v' ∧ Instr.sameBits 10000 v v' = true := by
  obtain ⟨rfl, hc⟩ := keyEq_true hk
  refine ⟨rfl, ?_⟩
  rcases hc with ⟨cs, rfl, hp⟩ | hp
  · obtain ⟨vs, rfl, h1⟩ := h.of_agg
    obtain ⟨us, rfl, h2⟩ := h'.of_agg
    have e : vs = us := by
      apply List.ext_getElem?
      intro j
      have e1 := h1.1
      have e2 := h2.1
      rcases Nat.lt_or_ge j cs.length with hj | hj
      · have hm := List.all_eq_true.1 hp _ (List.getElem_mem hj)
        have a1 := h1.2 j _ (vs[j]'(by omega)) (List.getElem?_eq_getElem hj) (List.getElem?_eq_getElem _)
        have a2 := h2.2 j _ (us[j]'(by omega)) (List.getElem?_eq_getElem hj) (List.getElem?_eq_getElem _)
        rw [List.getElem?_eq_getElem (by omega), List.getElem?_eq_getElem (by omega), (plain_unique hm a1 a2).1]
      · rw [List.getElem?_eq_none (by omega), List.getElem?_eq_none (by omega)]
    subst e
    refine ⟨rfl, ?_⟩
    have hall : ∀ (l : List V) (ws : List Value), Pw (Rep S) l ws → l.all V.plain = true → ∀ n, ((ws.zip ws).all fun p => Instr.sameBits n p.1 p.2) = true := by
      intro l
      induction l with
      | nil => intro ws hp _ n; rw [hp.nil_left]; rfl
      | cons a l ih =>
        intro ws hp ha n
        obtain ⟨w0, wr, rfl, h0, hr⟩ := hp.cons_left
        simp only [List.all_cons, Bool.and_eq_true] at ha
        simp only [List.zip_cons_cons, List.all_cons, Bool.and_eq_true]
        exact ⟨(plain_unique ha.1 h0 h0).2 n, ih wr hr ha.2 n⟩
    have := hall cs vs h1 hp 9999
    simp only [Instr.sameBits, beq_self_eq_true, Bool.true_and]
    exact this
  · exact ⟨(plain_unique hp h h').1, by rw [← (plain_unique hp h h').1]; exact (plain_unique hp h h).2 10000⟩

/-! ### Searching -/
def findR (kt : KT) (k : V) : List V → List MapEntry → Nat → Option (Option (Nat × Value))
  | [], [], _ => some none
  | x :: xs, e :: es, n => match keyEq kt k x with
    | some true => some (some (n, e.val))
    | some false => findR kt k xs es (n + 1)
    | none => none
  | _, _, _ => none

section
variable {P : Program} {w : World} {S : Fz} {σ : Locs} {os : Objs}

theorem sameNow_keyEq {d : TypeDesc} {kt : KT} {k k' : V} {v v' : Value} {b b' : Bool} (h1 : Rep S k v) (h2 : Rep S k' v') (hn : Instr.sameNow d v v' = some b) (hk : keyEq kt k k' = some b') : b = b' := by
  have key : ∀ {x y : V}, (∀ cs, x ≠ .agg cs) → (∀ cs, y ≠ .agg cs) → (∀ cs, x ≠ .tup cs) → (∀ cs, y ≠ .tup cs) → keyEq kt x y = some b' → ∃ f, eqF f x y = some b' := by
    intro x y hx hy hx2 hy2 h
    unfold keyEq at h
    split at h
    · rename_i a c ha hc
      unfold keyCells at ha hc
      split at ha
      · exact absurd rfl (hx _)
      · exact absurd rfl (hx2 _)
      · split at ha
        · rename_i hl
          cases ha
          split at hc
          · exact absurd rfl (hy _)
          · exact absurd rfl (hy2 _)
          · split at hc
            · cases hc
              have hks : ∃ f, kt.ks = [f] := by
                have := hl.2
                cases hq : kt.ks with
                | nil => rw [hq] at this; simp at this
                | cons f r => rw [hq] at this; cases r with
                  | nil => exact ⟨f, rfl⟩
                  | cons _ _ => simp at this
              obtain ⟨f, hf⟩ := hks
              rw [hf] at h
              simp only [eqL] at h
              refine ⟨f, ?_⟩
              split at h
              · rename_i he; simp at h; rw [he, h]
              · rename_i he; simp at h; rw [he, h]
              · cases h
            · exact absurd hl (by assumption)
        · cases ha
    · cases h
  unfold Instr.sameNow at hn
  split at hn
  · cases h1; cases h2
    split at hn
    · rename_i hkk
      cases hn
      obtain ⟨f, hf⟩ := key (by simp) (by simp) (by simp) (by simp) hk
      cases f <;> simp [eqF] at hf
      exact hf.2
    · cases hn
  · cases h1; cases h2
    rename_i s t
    cases hn
    obtain ⟨f, hf⟩ := key (by simp) (by simp) (by simp) (by simp) hk
    cases f <;> simp [eqF] at hf
    rw [bytes_beq]
    exact hf
  · cases h1; cases h2
    cases hn
    obtain ⟨f, hf⟩ := key (by simp) (by simp) (by simp) (by simp) hk
    cases f <;> simp [eqF] at hf
    exact hf
  · cases hn

theorem findNow_R {d : TypeDesc} {kt : KT} {k : V} {kv : Value} (hk : Rep S k kv) : ∀ (es : List MapEntry) (xs : List V) (n : Nat) (r q : Option (Nat × Value)), Pw (fun x (e : MapEntry) => Rep S x e.key) xs es → Instr.findNow d kv es n = some r → findR kt k xs es n = some q → r = q := by
  intro es
  induction es with
  | nil =>
    intro xs n r q hp h1 h2
    have : xs = [] := List.eq_nil_of_length_eq_zero hp.1
    subst this
    simp [Instr.findNow] at h1
    simp [findR] at h2
    rw [← h1, ← h2]
  | cons e es ih =>
    intro xs n r q hp h1 h2
    cases xs with
    | nil => have := hp.1; simp at this
    | cons x xs =>
      simp only [Instr.findNow] at h1
      simp only [findR] at h2
      cases hs : Instr.sameNow d kv e.key with
      | none => rw [hs] at h1; cases h1
      | some b =>
        rw [hs] at h1
        cases hq : keyEq kt k x with
        | none => rw [hq] at h2; cases h2
        | some b' =>
          rw [hq] at h2
          have := sameNow_keyEq hk hp.head hs hq
          subst this
          cases b with
          | true => simp at h1 h2; rw [← h1, ← h2]
          | false => exact ih xs (n + 1) r q hp.tail h1 h2

theorem findAsking_R {t : TypeId} {kt : KT} {k : V} {kv : Value} (hkt : flatKT P t = some kt) (hk : Rep S k kv) : ∀ (es : List MapEntry) (xs : List V) (n : Nat) (q : Option (Nat × Value)), Pw (fun x (e : MapEntry) => Rep S x e.key) xs es → findR kt k xs es n = some q → (Instr.findAsking t kv es n).run P w = .ok q w := by
  intro es
  induction es with
  | nil =>
    intro xs n q hp h2
    have : xs = [] := List.eq_nil_of_length_eq_zero hp.1
    subst this
    simp [findR] at h2
    subst h2
    simp [Instr.findAsking]
  | cons e es ih =>
    intro xs n q hp h2
    cases xs with
    | nil => have := hp.1; simp at this
    | cons x xs =>
      simp only [findR] at h2
      cases hq : keyEq kt k x with
      | none => rw [hq] at h2; cases h2
      | some b' =>
        rw [hq] at h2
        have hr := run_keyEq hkt hk hp.head hq w
        cases b' with
        | true => simp at h2; subst h2; simp [Instr.findAsking, hr]
        | false => simp [Instr.findAsking, hr]; exact ih xs (n + 1) q hp.tail h2

theorem findKey_R {t : TypeId} {d : TypeDesc} {kt : KT} {k : V} {kv : Value} {es : List MapEntry} {xs : List V} {q : Option (Nat × Value)} (hu : P.underlying t = some d) (hkt : flatKT P t = some kt) (hk : Rep S k kv) (hp : Pw (fun x (e : MapEntry) => Rep S x e.key) xs es) (h : findR kt k xs es 0 = some q) :
    (Instr.findKey t kv es).run P w = .ok q w := by
  simp only [Instr.findKey, Sem.run_bind, run_underlying hu, Result.andThen_ok]
  cases hn : Instr.findNow d kv es 0 with
  | none => exact findAsking_R hkt hk es xs 0 q hp h
  | some r => rw [findNow_R hk es xs 0 r q hp hn h]; rfl

theorem keyT_under {t : TypeId} {kt : KT} (h : flatKT P t = some kt) : ∃ d, P.underlying t = some d := by
  obtain ⟨h1, _⟩ := flatKT_some h
  unfold aggT at h1
  split at h1
  · exact ⟨_, by assumption⟩
  · exact ⟨_, by assumption⟩
  · exact ⟨_, by assumption⟩
  · cases h1

theorem run_checkKey_flat {t : TypeId} {kt : KT} {k : V} {kv : Value} (em : Bool) (hkt : flatKT P t = some kt) (hk : Rep S k kv) (hc : (keyCells kt k).isNone = false) : (Instr.checkKey em 10000 t kv).run P w = .ok () w := by
  cases h : keyCells kt k with
  | none => rw [h] at hc; cases hc
  | some cs =>
    obtain ⟨k1, k2⟩ := flatKT_some hkt
    obtain ⟨f1, l1⟩ := keyCells_FV h hk
    exact chkFlat em 8 t kt.ks k2 10000 (by omega) w kt.ag cs kv k1 l1 f1
theorem findR_pos {kt : KT} {k : V} : ∀ (es : List MapEntry) (xs : List V) (n : Nat) (i : Nat) (v : Value), findR kt k xs es n = some (some (i, v)) → n ≤ i ∧ ∃ e x, es[i - n]? = some e ∧ xs[i - n]? = some x ∧ v = e.val ∧ keyEq kt k x = some true := by
  intro es
  induction es with
  | nil => intro xs n i v h; cases xs <;> simp [findR] at h
  | cons e es ih =>
    intro xs n i v h
    cases xs with
    | nil => simp [findR] at h
    | cons x xs =>
      simp only [findR] at h
      split at h
      · rename_i hk
        simp at h
        obtain ⟨rfl, rfl⟩ := h
        exact ⟨Nat.le_refl _, e, x, by simp, by simp, rfl, hk⟩
      · obtain ⟨h1, e', x', h2, h3, h4, h5⟩ := ih xs (n + 1) i v h
        have : i - n = (i - (n + 1)) + 1 := by omega
        exact ⟨by omega, e', x', by rw [this]; simpa using h2, by rw [this]; simpa using h3, h4, h5⟩
      · cases h

/-- A map by value. -/
theorem findV_R {kt : KT} {k : V} : ∀ (es : List V) (ents : List MapEntry) (ks xs : Nat → V) (n : Nat) (q : Option V), es.length = ents.length → (∀ j, j < es.length → es[j]? = some (.tup [ks j, xs j])) → findV kt k es = some q →
    (q = none ∧ findR kt k ((List.range es.length).map ks) ents n = some none) ∨ ∃ j e, j < es.length ∧ ents[j]? = some e ∧ q = some (xs j) ∧ findR kt k ((List.range es.length).map ks) ents n = some (some (n + j, e.val)) := by
  intro es
  induction es with
  | nil =>
    intro ents ks xs n q hl _ h
    cases ents with
    | nil => simp [findV] at h; exact .inl ⟨h.symm, rfl⟩
    | cons _ _ => simp at hl
  | cons y es ih =>
    intro ents ks xs n q hl he h
    cases ents with
    | nil => simp at hl
    | cons e ents =>
      have h0 := he 0 (by simp)
      simp at h0
      subst h0
      have hr : (List.range (es.length + 1)).map ks = ks 0 :: (List.range es.length).map (fun j => ks (j + 1)) := by
        rw [List.range_succ_eq_map]; simp
      simp only [List.length_cons, hr, findR]
      simp only [findV] at h
      split at h
      · rename_i hk
        cases h
        rw [hk]
        exact .inr ⟨0, e, by omega, rfl, rfl, rfl⟩
      · rename_i hk
        rw [hk]
        rcases ih ents (fun j => ks (j + 1)) (fun j => xs (j + 1)) (n + 1) q (by simpa using hl) (fun j hj => by have := he (j + 1) (by simpa using hj); simpa using this) h with ⟨h1, h2⟩ | ⟨j, e', h1, h2, h3, h4⟩
        · exact .inl ⟨h1, h2⟩
        · exact .inr ⟨j + 1, e', Nat.succ_lt_succ h1, by simpa using h2, h3, by rw [h4, show n + 1 + j = n + (j + 1) by omega]⟩
      · cases h

/-- A map of the call's own. -/
def MapRel (S : Fz) (σ : Locs) (es : List (V × T2)) (ents : List MapEntry) : Prop := Pw (fun (a : V × T2) (e : MapEntry) => Rep S a.1 e.key ∧ relT S σ a.2 e.val) es ents

theorem MapRel.keys {es : List (V × T2)} {ents : List MapEntry} (h : MapRel S σ es ents) : Pw (fun x (e : MapEntry) => Rep S x e.key) (es.map (·.1)) ents := by
  refine ⟨by simp [h.1], fun j x e hx he => ?_⟩
  rw [List.getElem?_map] at hx
  obtain ⟨a, ha, rfl⟩ := Option.map_eq_some_iff.1 hx
  exact (h.2 j a e ha he).1

theorem findE_R {kt : KT} {k : V} : ∀ (es : List (V × T2)) (ents : List MapEntry) (n : Nat) (q : Option T2), es.length = ents.length → findE kt k es = some q →
    (q = none ∧ findR kt k (es.map (·.1)) ents n = some none) ∨ ∃ j e a, es[j]? = some a ∧ ents[j]? = some e ∧ q = some a.2 ∧ findR kt k (es.map (·.1)) ents n = some (some (n + j, e.val)) := by
  intro es
  induction es with
  | nil =>
    intro ents n q hl h
    cases ents with
    | nil => simp [findE] at h; exact .inl ⟨h.symm, rfl⟩
    | cons _ _ => simp at hl
  | cons y es ih =>
    intro ents n q hl h
    cases ents with
    | nil => simp at hl
    | cons e ents =>
      obtain ⟨k', x⟩ := y
      simp only [findE] at h
      simp only [List.map_cons, findR]
      split at h
      · rename_i hk
        cases h
        rw [hk]
        exact .inr ⟨0, e, (k', x), rfl, rfl, rfl, rfl⟩
      · rename_i hk
        rw [hk]
        rcases ih ents (n + 1) q (by simpa using hl) h with ⟨h1, h2⟩ | ⟨j, e', a, h1, h2, h3, h4⟩
        · exact .inl ⟨h1, h2⟩
        · exact .inr ⟨j + 1, e', a, by simpa using h1, by simpa using h2, h3, by simp only [h4]; congr 3; omega⟩
      · cases h

theorem putE_R {kt : KT} {k : V} {x : T2} : ∀ (es : List (V × T2)) (ents : List MapEntry) (n : Nat) (es' : List (V × T2)), es.length = ents.length → putE kt k x es = some es' →
    (es' = es ++ [(k, x)] ∧ findR kt k (es.map (·.1)) ents n = some none) ∨ ∃ j e, j < es.length ∧ ents[j]? = some e ∧ es' = es.set j (k, x) ∧ findR kt k (es.map (·.1)) ents n = some (some (n + j, e.val)) := by
  intro es
  induction es with
  | nil =>
    intro ents n q hl h
    cases ents with
    | nil => simp [putE] at h; exact .inl ⟨h.symm, rfl⟩
    | cons _ _ => simp at hl
  | cons y es ih =>
    intro ents n q hl h
    cases ents with
    | nil => simp at hl
    | cons e ents =>
      obtain ⟨k', x'⟩ := y
      simp only [putE] at h
      simp only [List.map_cons, findR]
      split at h
      · rename_i hk
        cases h
        rw [hk]
        exact .inr ⟨0, e, by simp, rfl, rfl, rfl⟩
      · rename_i hk
        rw [hk]
        split at h
        · rename_i r hr
          cases h
          rcases ih ents (n + 1) r (by simpa using hl) hr with ⟨h1, h2⟩ | ⟨j, e', h1, h2, h3, h4⟩
          · exact .inl ⟨by rw [h1]; rfl, h2⟩
          · exact .inr ⟨j + 1, e', Nat.succ_lt_succ h1, by simpa using h2, by rw [h3]; rfl, by simp only [h4]; congr 3; omega⟩
        · cases h
      · cases h

theorem keyAt_R {kt : KT} {k : V} : ∀ (es : List (V × T2)) (ents : List MapEntry) (n : Nat) (q : Option (Nat × T2)), es.length = ents.length → keyAt kt k es n = some q →
    (q = none ∧ findR kt k (es.map (·.1)) ents n = some none) ∨ ∃ j e a, es[j]? = some a ∧ ents[j]? = some e ∧ q = some (n + j, a.2) ∧ findR kt k (es.map (·.1)) ents n = some (some (n + j, e.val)) := by
  intro es
  induction es with
  | nil =>
    intro ents n q hl h
    cases ents with
    | nil => simp [keyAt] at h; exact .inl ⟨h.symm, rfl⟩
    | cons _ _ => simp at hl
  | cons y es ih =>
    intro ents n q hl h
    cases ents with
    | nil => simp at hl
    | cons e ents =>
      obtain ⟨k', x⟩ := y
      simp only [keyAt] at h
      simp only [List.map_cons, findR]
      split at h
      · rename_i hk
        cases h
        rw [hk]
        exact .inr ⟨0, e, (k', x), rfl, rfl, rfl, rfl⟩
      · rename_i hk
        rw [hk]
        rcases ih ents (n + 1) q (by simpa using hl) h with ⟨h1, h2⟩ | ⟨j, e', a, h1, h2, h3, h4⟩
        · exact .inl ⟨h1, h2⟩
        · exact .inr ⟨j + 1, e', a, by simpa using h1, by simpa using h2, by rw [h3]; congr 2; omega, by simp only [h4]; congr 3; omega⟩
      · cases h

end
end Go.Ev
