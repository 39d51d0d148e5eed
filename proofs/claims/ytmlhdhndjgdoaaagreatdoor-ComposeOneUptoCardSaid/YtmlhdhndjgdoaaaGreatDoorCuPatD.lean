/- Joined: CuWp CuCh CuPatD CuPatW CuPatX CuPatY CuPatZ. -/
import Derived.Test.YtmlhdhndjgdoaaaGreatDoorCuPat
import Derived.Test.YtmlhdhndjgdoaaaGreatDoorCuBld
import Derived.Lib.AtoiAllCases
import Derived.Lib.CutLaws
import Derived.Lib.CountLaws
import Derived.Lib.ItoaLen
import Derived.Test.YtmlhdhndjgdoaaaGreatDoorCuLp

/- What a staged text answers, told by rules that simp knows; texts, keys. Of no program. -/
namespace Go.Ev
set_option linter.unusedSimpArgs false
set_option linter.unusedVariables false

/-- It answers, and so. -/
def Ok {α : Type} (o : Option α) (Q : α → Prop) : Prop := ∃ r, o = some r ∧ Q r
section
variable {α β : Type}
@[simp] theorem ok_some (a : α) (Q : α → Prop) : Ok (some a) Q ↔ Q a :=
  ⟨fun ⟨r, h, hq⟩ => by cases h; exact hq, fun h => ⟨a, rfl, h⟩⟩
@[simp] theorem ok_none (Q : α → Prop) : Ok none Q ↔ False := ⟨fun ⟨r, h, hq⟩ => (by cases h), fun h => h.elim⟩
theorem ok_bind (o : Option α) (f : α → Option β) (Q : β → Prop) : Ok (o.bind f) Q ↔ Ok o fun a => Ok (f a) Q := by
  cases o with
  | none => simp
  | some a => simp
theorem ok_cond (b : Bool) (x y : Option α) (Q : α → Prop) : Ok (cond b x y) Q ↔ (b = true → Ok x Q) ∧ (b = false → Ok y Q) := by cases b <;> simp
theorem ok_chk (b : Bool) (x : Option α) (Q : α → Prop) : Ok (chk b x) Q ↔ b = true ∧ Ok x Q := by cases b <;> simp [chk]
theorem Ok.mono {o : Option α} {Q R : α → Prop} (h : Ok o Q) (hqr : ∀ a, Q a → R a) : Ok o R := by
  obtain ⟨r, h1, h2⟩ := h
  exact ⟨r, h1, hqr r h2⟩
theorem Ok.bind {o : Option α} {f : α → Option β} {Q : α → Prop} {R : β → Prop} (h : Ok o Q) (hf : ∀ a, Q a → Ok (f a) R) : Ok (o.bind f) R := by
  obtain ⟨r, rfl, h2⟩ := h
  exact hf r h2
theorem Ok.cond {b : Bool} {x y : Option α} {Q : α → Prop} (h1 : b = true → Ok x Q) (h2 : b = false → Ok y Q) : Ok (cond b x y) Q := (ok_cond b x y Q).2 ⟨h1, h2⟩
theorem Ok.chk {b : Bool} {x : Option α} {Q : α → Prop} (h1 : b = true) (h2 : Ok x Q) : Ok (chk b x) Q := (ok_chk b x Q).2 ⟨h1, h2⟩
theorem ok_loop {σ ρ : Type} {body : σ → Option (σ ⊕ ρ)} (I : σ → Prop) (m : σ → Nat) (Q : ρ → Prop)
    (step : ∀ s, I s → Ok (body s) fun x => match x with | .inl s' => I s' ∧ m s' < m s | .inr r => Q r) (n : Nat) (s : σ) (h1 : I s) (h2 : m s < n) : Ok (loopK body n s) Q :=
  loopK_inv I m Q (fun s hs => by
    obtain ⟨x, h1, h2⟩ := step s hs
    cases x with
    | inl s' => exact .inl ⟨s', h1, h2.1, h2.2⟩
    | inr r => exact .inr ⟨r, h1, h2⟩) n s h1 h2
end

/-! ### Keys of texts -/
theorem eqL_strs : ∀ (xs ys : List Str), xs.length = ys.length → eqL (xs.map fun _ => FK.s) (xs.map V.str) (ys.map V.str) = some (decide (xs = ys))
  | [], [], _ => rfl
  | x :: xs, y :: ys, h => by
    simp only [List.length_cons, Nat.add_right_cancel_iff] at h
    simp only [List.map_cons, eqL, eqF]
    by_cases hxy : x = y
    · subst hxy
      simp [eqL_strs xs ys h]
    · have : (x == y) = false := by simpa using hxy
      rw [this]
      simp [hxy]
  | [], _ :: _, h => by simp at h
  | _ :: _, [], h => by simp at h
theorem key1_eq (a b : Str) : keyEq ⟨false, [.s]⟩ (V.str a) (V.str b) = some (decide (a = b)) := by
  have : keyEq ⟨false, [.s]⟩ (V.str a) (V.str b) = eqL [.s] [.str a] [.str b] := rfl
  rw [this]
  have := eqL_strs [a] [b] rfl
  simp only [List.map_cons, List.map_nil] at this
  rw [this]
  simp
abbrev K6 := Str × Str × Str × Str × Str × Str
instance k5Dec : DecidableEq (Str × Str × Str × Str × Str) := inferInstance
instance k6Dec : DecidableEq K6 := instDecidableEqProd
def key6 (k : K6) : V := .agg [.str k.1, .str k.2.1, .str k.2.2.1, .str k.2.2.2.1, .str k.2.2.2.2.1, .str k.2.2.2.2.2]
theorem key6_eq (x y : K6) : keyEq ⟨true, [.s, .s, .s, .s, .s, .s]⟩ (key6 x) (key6 y) = some (decide (x = y)) := by
  obtain ⟨a, b, c, d, e, f⟩ := x
  obtain ⟨a', b', c', d', e', f'⟩ := y
  have : keyEq ⟨true, [.s, .s, .s, .s, .s, .s]⟩ (key6 (a, b, c, d, e, f)) (key6 (a', b', c', d', e', f')) = eqL [.s, .s, .s, .s, .s, .s] ([a, b, c, d, e, f].map V.str) ([a', b', c', d', e', f'].map V.str) := rfl
  rw [this]
  have := eqL_strs [a, b, c, d, e, f] [a', b', c', d', e', f'] rfl
  simp only [List.map_cons, List.map_nil] at this ⊢
  rw [this]
  congr 1
  simp

/-! ### Texts -/
theorem idx_lt (s : Str) (i : Nat) (h : i < s.length) : idxL s (i : Int) = some s[i] := by
  unfold idxL
  rw [if_neg (by omega), Int.toNat_natCast, List.getElem?_eq_getElem h]
theorem replaceK_room (o n : Str) : ∀ (k : Nat) (s : Str), (Lib.replaceK o n k s).length ≤ s.length + k * n.length
  | 0, s => by unfold Lib.replaceK; simp
  | k + 1, s => by
    unfold Lib.replaceK
    split
    · omega
    · have := replaceK_room o n k (s.drop ((Lib.index s o).toNat + o.length))
      rw [List.length_drop] at this
      simp only [List.length_append, List.length_take]
      rw [Nat.add_mul, Nat.one_mul]
      omega
theorem index_room {s sub : Str} (h : ¬ (Lib.index s sub == -1) = true) : (Lib.index s sub).toNat + sub.length ≤ s.length := by
  have h1 : Lib.indexB ⟨s.toArray⟩ ⟨sub.toArray⟩ = Lib.index s sub := rfl
  rcases Lib.indexB_cases ⟨s.toArray⟩ ⟨sub.toArray⟩ with h2 | ⟨i, h2, h3⟩
  · rw [h1] at h2
    rw [h2] at h
    exact absurd rfl h
  · rw [h1] at h2
    rw [h2, Int.toNat_natCast]
    exact h3
/-- What is put in place is no longer: nor is the whole. -/
theorem replaceK_le {o n : Str} (ho : n.length ≤ o.length) : ∀ (k : Nat) (s : Str), (Lib.replaceK o n k s).length ≤ s.length
  | 0, s => by unfold Lib.replaceK; simp
  | k + 1, s => by
    unfold Lib.replaceK
    split
    · omega
    · rename_i h
      have h1 := index_room h
      have := replaceK_le ho k (s.drop ((Lib.index s o).toNat + o.length))
      rw [List.length_drop] at this
      simp only [List.length_append, List.length_take]
      omega
theorem replace_le {o n : Str} (ho : n.length ≤ o.length) (k : Int) (s : Str) : (Lib.replace s o n k).length ≤ s.length := by
  unfold Lib.replace
  split
  · exact Nat.le_refl _
  · exact replaceK_le ho _ _
theorem strV_len (s : Str) : (strV s).length = s.length := by simp [strV]
theorem strV_okEl (s : Str) : (strV s).all (okEl 1) = true := by
  rw [List.all_eq_true]
  intro x hx
  obtain ⟨b, _, rfl⟩ := List.mem_map.1 hx
  rfl
theorem strV_okB (s : Str) : (strV s).all okB = true := by
  rw [List.all_eq_true]
  intro x hx
  obtain ⟨b, _, rfl⟩ := List.mem_map.1 hx
  have := b.toNat_lt
  simp only [okB, decide_eq_true_eq]
  omega
theorem bytesOf_strV (s : Str) : bytesOf (strV s) = some s := by
  induction s with
  | nil => rfl
  | cons c s ih =>
    have : strV (c :: s) = .int .u8 c.toNat :: strV s := rfl
    rw [this]
    simp only [bytesOf, ih, Int.toNat_natCast, UInt8.ofNat_toNat]
theorem strV_append (s t : Str) : strV (s ++ t) = strV s ++ strV t := by simp [strV]
theorem strV_one (c : UInt8) : strV [c] = [.int .u8 c.toNat] := rfl
/-! ### Trim of blanks: strings.Trim at the one byte -/
def trimB (s : Str) : Str := ((s.reverse.dropWhile (· == 32)).reverse).dropWhile (· == 32)
theorem trimB_len (s : Str) : (trimB s).length ≤ s.length := by
  unfold trimB
  have h1 := (List.dropWhile_sublist (l := (s.reverse.dropWhile (· == 32)).reverse) (fun x : UInt8 => x == 32)).length_le
  have h2 := (List.dropWhile_sublist (l := s.reverse) (fun x : UInt8 => x == 32)).length_le
  simp only [List.length_reverse] at h1 h2 ⊢
  omega
theorem trimB_cons (s : Str) : trimB (32 :: s) = trimB s := by
  unfold trimB
  rw [List.reverse_cons, List.dropWhile_append]
  split
  · rename_i h
    rw [List.isEmpty_iff] at h
    rw [h]
    rfl
  · rw [List.reverse_append]
    rfl
theorem u8_of {c : UInt8} {n : Nat} (hn : n < 256) (e : ((c.toNat : Nat) : Int) = (n : Int)) : c = UInt8.ofNat n := by
  apply UInt8.toNat_inj.1
  have : (UInt8.ofNat n).toNat = n := by simp; omega
  rw [this]; omega
theorem is32 (c : UInt8) : (((c.toNat : Nat) : Int) == 32) = (c == 32) := by
  by_cases h : c = 32
  · subst h; rfl
  · have h1 : (c == 32) = false := by simpa using h
    rw [h1, beq_eq_false_iff_ne]
    exact fun e => h (u8_of (n := 32) (by omega) e)
noncomputable def trR (v : Vs) : Option (Vs ⊕ Vs) := sel v.1 [((asStr? (hV v.2 0)).bind fun x1 =>
((asInt? .u8 (hV v.2 1)).bind fun x2 =>
(cond (decide ((((x1 : List UInt8).length : Nat) : Int) > 0))
((idxL x1 (IntKind.wrap .i64 ((((x1 : List UInt8).length : Nat) : Int) - 1))).bind fun x3 =>
(cond (((x3.toNat : Nat) : Int) == x2)
((cutL none (some (IntKind.wrap .i64 ((((x1 : List UInt8).length : Nat) : Int) - 1))) x1).bind fun x4 =>
(some (.inl (0, [(.v (.str x4)), (.v (.int .u8 x2))]))))
(some (.inr (0, [(.v (.str x1))])))))
(some (.inr (0, [(.v (.str x1))]))))))]
noncomputable def trL (v : Vs) : Option (Vs ⊕ Vs) := sel v.1 [((asStr? (hV v.2 0)).bind fun x7 =>
((asInt? .u8 (hV v.2 1)).bind fun x8 =>
(cond (decide ((((x7 : List UInt8).length : Nat) : Int) > 0))
((idxL x7 0).bind fun x9 =>
(cond (((x9.toNat : Nat) : Int) == x8)
((cutL (some 1) none x7).bind fun x10 =>
(some (.inl (0, [(.v (.str x10)), (.v (.int .u8 x8))]))))
(some (.inr (0, [(.v (.str x7))])))))
(some (.inr (0, [(.v (.str x7))]))))))]
theorem trR_exact : ∀ (f : Nat) (s : Str), s.length < f → s.length ≤ 1000000000 → loopK trR f (0, [.v (.str s), .v (.int .u8 32)]) = some (0, [.v (.str (s.reverse.dropWhile (· == 32)).reverse)]) := by
  intro f
  induction f with
  | zero => intro s h; omega
  | succ f ih =>
    intro s hf hl
    unfold loopK
    rcases List.eq_nil_or_concat s with rfl | ⟨q, c, rfl⟩
    · simp [trR, sel, hV]
    · rw [List.concat_eq_append] at hf hl ⊢
      simp only [List.length_append, List.length_cons, List.length_nil] at hf hl
      have hlen : (((q ++ [c]).length : Nat) : Int) - 1 = (q.length : Int) := by simp
      have hpos : decide ((((q ++ [c]).length : Nat) : Int) > 0) = true := decide_eq_true (by simp)
      have hw := w64 (x := (q.length : Int)) (by omega) (by omega)
      have hidx : idxL (q ++ [c]) (q.length : Int) = some c := by
        rw [idx_lt _ _ (by simp)]; simp
      have hcut : cutL none (some (q.length : Int)) (q ++ [c]) = some q := by
        rw [cutL_to (by omega) (by simp; omega), Int.toNat_natCast, List.take_left]
      rw [List.reverse_append, List.reverse_cons, List.reverse_nil, List.nil_append, List.singleton_append, List.dropWhile_cons]
      cases hp : c == 32 with
      | true =>
        have step : trR (0, [.v (.str (q ++ [c])), .v (.int .u8 32)]) = some (.inl (0, [.v (.str q), .v (.int .u8 32)])) := by
          simp only [trR, sel, hV, List.getD_cons_zero, List.getD_cons_succ, asStr_str, asInt_int, Option.bind_some, hpos, cond_true, hlen, hw, hidx, is32, hp, hcut]
        rw [step]
        simp only [Option.bind_some, if_true]
        exact ih q (by omega) (by omega)
      | false =>
        have step : trR (0, [.v (.str (q ++ [c])), .v (.int .u8 32)]) = some (.inr (0, [.v (.str (q ++ [c]))])) := by
          simp only [trR, sel, hV, List.getD_cons_zero, List.getD_cons_succ, asStr_str, asInt_int, Option.bind_some, hpos, cond_true, hlen, hw, hidx, is32, hp, cond_false]
        rw [step]
        simp
theorem trL_exact : ∀ (f : Nat) (s : Str), s.length < f → s.length ≤ 1000000000 → loopK trL f (0, [.v (.str s), .v (.int .u8 32)]) = some (0, [.v (.str (s.dropWhile (· == 32)))]) := by
  intro f
  induction f with
  | zero => intro s h; omega
  | succ f ih =>
    intro s hf hl
    unfold loopK
    cases s with
    | nil => simp [trL, sel, hV]
    | cons c q =>
      simp only [List.length_cons] at hf hl
      have hpos : decide ((((c :: q : Str).length : Nat) : Int) > 0) = true := decide_eq_true (by simp only [List.length_cons]; omega)
      have hidx : idxL (c :: q) 0 = some c := rfl
      have hcut : cutL (some 1) none (c :: q) = some q := by
        rw [cutL_from (by omega) (by simp only [List.length_cons]; omega)]; rfl
      rw [List.dropWhile_cons]
      cases hp : c == 32 with
      | true =>
        have step : trL (0, [.v (.str (c :: q)), .v (.int .u8 32)]) = some (.inl (0, [.v (.str q), .v (.int .u8 32)])) := by
          simp only [trL, sel, hV, List.getD_cons_zero, List.getD_cons_succ, asStr_str, asInt_int, Option.bind_some, hpos, cond_true, hidx, is32, hp, hcut]
        rw [step]
        simp only [Option.bind_some, if_true]
        exact ih q (by omega) (by omega)
      | false =>
        have step : trL (0, [.v (.str (c :: q)), .v (.int .u8 32)]) = some (.inr (0, [.v (.str (c :: q))])) := by
          simp only [trL, sel, hV, List.getD_cons_zero, List.getD_cons_succ, asStr_str, asInt_int, Option.bind_some, hpos, cond_true, hidx, is32, hp, cond_false]
        rw [step]
        simp
theorem trim_exact (s : Str) (hl : s.length ≤ 1000000000) : ((loopK trR FU (0, [(.v (.str s)), (.v (.int .u8 32))])).bind fun x5 => sel x5.1 [((asStr? (hV x5.2 0)).bind fun x6 =>
((loopK trL FU (0, [(.v (.str x6)), (.v (.int .u8 32))])).bind fun x11 => sel x11.1 [((asStr? (hV x11.2 0)).bind fun x12 =>
(some (x12)))]))]) = some (trimB s) := by
  have h2 := (List.dropWhile_sublist (l := s.reverse) (fun x : UInt8 => x == 32)).length_le
  rw [List.length_reverse] at h2
  rw [trR_exact FU s (by unfold FU; omega) hl]
  simp only [Option.bind_some, sel, hV, List.getD_cons_zero, asStr_str]
  rw [trL_exact FU _ (by unfold FU; rw [List.length_reverse]; omega) (by rw [List.length_reverse]; omega)]
  rfl
end Go.Ev

/- Chains of parents; of no program. -/
namespace Go.Ev
set_option linter.unusedSimpArgs false
section
variable {K : Type} [DecidableEq K] {go : K → Bool} {z : K}
/-- What a place lies in. -/
def nxt1 (z : K) (m : List (K × K)) (s : K) : K := (getM s m).getD z
/-- A place's chain, the world left out. -/
inductive Ch (go : K → Bool) (z : K) (m : List (K × K)) : K → List K → Prop
  | stop {s : K} : go s = false → Ch go z m s []
  | step {s : K} {l : List K} : go s = true → Ch go z m (nxt1 z m s) l → Ch go z m s (s :: l)

variable {m : List (K × K)}
theorem Ch.det {s : K} {l l' : List K} (h : Ch go z m s l) (h' : Ch go z m s l') : l = l' := by
  induction h generalizing l' with
  | stop h => cases h' with
    | stop _ => rfl
    | step h2 _ => rw [h] at h2; cases h2
  | step h1 _ ih => cases h' with
    | stop h2 => rw [h1] at h2; cases h2
    | step _ h3 => rw [ih h3]

theorem Ch.go_of {s : K} {l : List K} (h : Ch go z m s l) : ∀ x ∈ l, go x = true := by
  induction h with
  | stop _ => intro x hx; cases hx
  | step h1 _ ih =>
    intro x hx
    rcases List.mem_cons.1 hx with rfl | hx
    · exact h1
    · exact ih x hx

/-- Each thing in a chain begins the chain's rest. -/
theorem Ch.tail_of {s : K} {l : List K} (h : Ch go z m s l) : ∀ x ∈ l, ∃ pre l', l = pre ++ l' ∧ Ch go z m x l' := by
  induction h with
  | stop _ => intro x hx; cases hx
  | @step s l h1 h2 ih =>
    intro x hx
    rcases List.mem_cons.1 hx with rfl | hx
    · exact ⟨[], _, rfl, .step h1 h2⟩
    · obtain ⟨pre, l', e, h3⟩ := ih x hx
      exact ⟨s :: pre, l', by rw [e]; rfl, h3⟩

theorem Ch.nodup {s : K} {l : List K} (h : Ch go z m s l) : l.Nodup := by
  induction h with
  | stop _ => exact List.nodup_nil
  | @step s l h1 h2 ih =>
    refine List.nodup_cons.2 ⟨fun hm => ?_, ih⟩
    obtain ⟨pre, l', e, h3⟩ := h2.tail_of s hm
    have := h3.det (.step h1 h2)
    rw [this] at e
    have := congrArg List.length e
    simp only [List.length_append, List.length_cons] at this
    omega

theorem nodup_len {l : List K} : ∀ {ks : List K}, l.Nodup → (∀ x ∈ l, x ∈ ks) → l.length ≤ ks.length := by
  induction l with
  | nil => intro ks _ _; exact Nat.zero_le _
  | cons x l ih =>
    intro ks hn hs
    have hx := hs x (List.mem_cons_self ..)
    have := ih (ks := ks.erase x) (List.nodup_cons.1 hn).2 (fun y hy => (List.mem_erase_of_ne (fun (e : y = x) => (List.nodup_cons.1 hn).1 (by rw [← e]; exact hy))).2 (hs y (List.mem_cons_of_mem _ hy)))
    rw [List.length_erase_of_mem hx] at this
    have : 0 < ks.length := List.length_pos_of_mem hx
    simp only [List.length_cons]
    omega

theorem getM_key {s : K} {m : List (K × K)} {x : K} (h : getM s m = some x) : s ∈ m.map Prod.fst := by
  induction m with
  | nil => cases h
  | cons p m ih =>
    unfold getM at h
    split at h
    · rename_i e; simp [e]
    · exact List.mem_cons_of_mem _ (ih h)

/-- A chain is no longer than the map, but for one. -/
theorem Ch.len {s : K} {l : List K} (hz : go z = false) (h : Ch go z m s l) : l.length ≤ m.length + 1 := by
  have key : ∀ {s : K} {l : List K}, Ch go z m s l → ∀ x ∈ l, x ∈ m.map Prod.fst ∨ l.getLast? = some x := by
    intro s l h
    induction h with
    | stop _ => intro x hx; cases hx
    | @step s l h1 h2 ih =>
      intro x hx
      cases l with
      | nil => simp at hx; subst hx; exact .inr rfl
      | cons y l =>
        rcases List.mem_cons.1 hx with rfl | hx
        · left
          cases hg : getM x m with
          | some q => exact getM_key hg
          | none =>
            unfold nxt1 at h2
            rw [hg] at h2
            cases h2 with
            | step h3 _ => simp only [Option.getD_none] at h3; rw [hz] at h3; cases h3
        · rcases ih x hx with h4 | h4
          · exact .inl h4
          · exact .inr (by rw [List.getLast?_cons_cons]; exact h4)
  cases he : l.getLast? with
  | none =>
    rw [List.getLast?_eq_none_iff] at he
    rw [he]; exact Nat.zero_le _
  | some y =>
    have := nodup_len (ks := y :: m.map Prod.fst) h.nodup (fun x hx => by
      rcases key h x hx with h1 | h1
      · exact List.mem_cons_of_mem _ h1
      · rw [he] at h1; cases h1; exact List.mem_cons_self ..)
    simpa using this

theorem getM_put (k s : K) (x : K) (m : List (K × K)) : getM s (putM k x m) = if s = k then some x else getM s m := by
  induction m with
  | nil =>
    unfold putM getM
    by_cases h : s = k
    · simp [h]
    · have h' : ¬ k = s := fun e => h e.symm
      simp [h, h', getM]
  | cons p m ih =>
    unfold putM
    split
    · rename_i e
      unfold getM
      by_cases h : s = k
      · simp [h, e]
      · have h' : ¬ k = s := fun e => h e.symm
        simp [h, e] at *
        simp [h, h', e]
    · rename_i e
      unfold getM
      rw [ih]
      by_cases h : s = k
      · subst h; simp [e]
      · by_cases h2 : p.1 = s
        · simp [h2, h]
        · simp [h2, h]

theorem Ch.put_out {c p s : K} {l : List K} (h : Ch go z m s l) (hc : c ∉ l) : Ch go z (putM c p m) s l := by
  induction h with
  | stop h => exact .stop h
  | @step s l h1 _ ih =>
    refine .step h1 ?_
    have : nxt1 z (putM c p m) s = nxt1 z m s := by
      unfold nxt1
      rw [getM_put, if_neg (fun e => hc (by rw [e]; exact List.mem_cons_self ..))]
    rw [this]
    exact ih fun h => hc (List.mem_cons_of_mem _ h)

/-- Places may be put into one that does not lie in them. -/
theorem Ch.put {c p : K} {L0 : List K} (h0 : Ch go z m p L0) (hc : c ∉ L0) {s : K} {l : List K} (h : Ch go z m s l) : ∃ l', Ch go z (putM c p m) s l' := by
  induction h with
  | stop h => exact ⟨_, .stop h⟩
  | @step s l h1 _ ih =>
    by_cases e : s = c
    · subst e
      have : nxt1 z (putM s p m) s = p := by unfold nxt1; rw [getM_put, if_pos rfl]; rfl
      exact ⟨_, .step h1 (by rw [this]; exact h0.put_out hc)⟩
    · have : nxt1 z (putM c p m) s = nxt1 z m s := by unfold nxt1; rw [getM_put, if_neg e]
      obtain ⟨l', h2⟩ := ih
      exact ⟨_, .step h1 (by rw [this]; exact h2)⟩

theorem Ch.nil (hz : go z = false) (s : K) : ∃ l, Ch go z ([] : List (K × K)) s l := by
  cases h : go s with
  | false => exact ⟨_, .stop h⟩
  | true => exact ⟨_, .step h (.stop (show go ((getM s ([] : List (K × K))).getD z) = false from hz))⟩
end
end Go.Ev

/- Patterns: Load, Find, Fill, in normal form; they answer. Of no program. -/
namespace Go.Ev
set_option linter.unusedSimpArgs false
set_option linter.unusedVariables false
set_option maxRecDepth 100000

/-! cubit/pattern.Widths -/
noncomputable def pwidths (a0 : List UInt8) : Option (Option (List V)) :=
(cond (a0 == [110, 97, 114, 114, 111, 119])
(some ((some [(.str [110, 97, 114, 114, 111, 119]), (.str [115, 104, 111, 114, 116]), (.str [108, 111, 110, 103])])))
(cond (a0 == [115, 104, 111, 114, 116])
(some ((some [(.str [115, 104, 111, 114, 116]), (.str [108, 111, 110, 103])])))
(some ((some [(.str [108, 111, 110, 103])])))))
/-! cubit/pattern.cats -/
noncomputable def pcats (a0 : List UInt8) (a1 : List UInt8) (a2 : List UInt8) (a3 : List UInt8) (a4 : List UInt8) (a5 : List UInt8) : Option (Option (List V)) :=
(cond (a0 == [119, 111, 114, 100])
(some ((some [(.str a4), (.str [111, 116, 104, 101, 114])])))
(cond (a0 == [112, 111, 119, 101, 114])
(some ((some [(.str a4), (.str [])])))
(some ((some [(.str a4)])))))
/-! (*cubit/pattern.Words).Chain -/
noncomputable def pchain_L0 (v : Vs) : Option (Vs ⊕ Vs) := sel v.1 [((asPt? (hV v.2 0)).bind fun x0 =>
((asStr? (hV v.2 1)).bind fun x1 =>
((asBool? (hV v.2 2)).bind fun x2 =>
(cond x2
(cond (!(x1 == [114, 111, 111, 116]))
((asPtr? 2 (.pt x0)).bind fun x3 =>
((asMp? (x3.getD 0 .nilp)).bind fun x4 =>
((asMp? (x3.getD 1 .nilp)).bind fun x5 =>
((lookM ⟨false, [.s]⟩ (.str x1) x5).bind fun x6 =>
((asStr? (x6.getD (.str []))).bind fun x7 =>
(some (.inl (1, [(.v (.pt x0)), (.v (.str x7)), (.v (.bool (x6.isSome))), (.l [(.str x1)])]))))))))
(some (.inr (0, []))))
(some (.inr (0, []))))))),
((asPt? (hV v.2 0)).bind fun x8 =>
((asStr? (hV v.2 1)).bind fun x9 =>
((asBool? (hV v.2 2)).bind fun x10 =>
(cond x10
(cond (!(x9 == [114, 111, 111, 116]))
(chk ((fits ((hL v.2 3).length + 1)) && true)
((asPtr? 2 (.pt x8)).bind fun x11 =>
((asMp? (x11.getD 0 .nilp)).bind fun x12 =>
((asMp? (x11.getD 1 .nilp)).bind fun x13 =>
((lookM ⟨false, [.s]⟩ (.str x9) x13).bind fun x14 =>
((asStr? (x14.getD (.str []))).bind fun x15 =>
(some (.inl (1, [(.v (.pt x8)), (.v (.str x15)), (.v (.bool (x14.isSome))), (.l ((hL v.2 3) ++ [(.str x9)] : List V))])))))))))
(some (.inr (1, [(.l (hL v.2 3))]))))
(some (.inr (1, [(.l (hL v.2 3))])))))))]
noncomputable def pchain (a0 : Option (List V)) (a1 : List UInt8) : Option (Option (List V)) :=
((loopK pchain_L0 FU (0, [(.v (.pt a0)), (.v (.str a1)), (.v (.bool true))])).bind fun x16 => sel x16.1 [(some ((some [(.str [114, 111, 111, 116])]))),
(chk ((fits ((hL x16.2 0).length + 1)) && true)
(some ((some ((hL x16.2 0) ++ [(.str [114, 111, 111, 116])] : List V)))))])
/-! (*cubit/pattern.Words).Find -/
noncomputable def pfind_L3 (v : Vs) : Option (Vs ⊕ Vs) := sel v.1 [((asPt? (hV v.2 0)).bind fun x50 =>
((asStr? (hV v.2 1)).bind fun x51 =>
((asStr? (hV v.2 2)).bind fun x52 =>
((asStr? (hV v.2 3)).bind fun x53 =>
((asSl? (hV v.2 4)).bind fun x54 =>
((asInt? .i64 (hV v.2 5)).bind fun x55 =>
((asInt? .i64 (hV v.2 6)).bind fun x56 =>
((asSl? (hV v.2 7)).bind fun x57 =>
((asInt? .i64 (hV v.2 8)).bind fun x58 =>
((asInt? .i64 (hV v.2 9)).bind fun x59 =>
((asInt? .i64 (hV v.2 10)).bind fun x60 =>
((asInt? .i64 (hV v.2 11)).bind fun x61 =>
((asSl? (hV v.2 12)).bind fun x62 =>
((asInt? .i64 (hV v.2 13)).bind fun x63 =>
((asInt? .i64 (hV v.2 14)).bind fun x64 =>
((asStr? (hV v.2 15)).bind fun x65 =>
((asStr? (hV v.2 16)).bind fun x66 =>
((asStr? (hV v.2 17)).bind fun x67 =>
((asStr? (hV v.2 18)).bind fun x68 =>
((asStr? (hV v.2 19)).bind fun x69 =>
((asStr? (hV v.2 20)).bind fun x70 =>
(cond (decide (x64 < x63))
((idxL (x62.getD []) x64).bind fun x71 =>
((asStr? x71).bind fun x72 =>
((asPtr? 2 (.pt x50)).bind fun x73 =>
((asMp? (x73.getD 0 .nilp)).bind fun x74 =>
((asMp? (x73.getD 1 .nilp)).bind fun x75 =>
((lookM ⟨true, [.s, .s, .s, .s, .s, .s]⟩ (.agg [(.str x65), (.str x51), (.str x52), (.str x68), (.str x72), (.str x53)]) x74).bind fun x76 =>
((asStr? (x76.getD (.str []))).bind fun x77 =>
(cond (x76.isSome)
(some (.inr (0, [(.v (.str x77)), (.v (.bool true))])))
(some (.inl (0, [(.v (.pt x50)), (.v (.str x51)), (.v (.str x52)), (.v (.str x53)), (.v (.sl x54)), (.v (.int .i64 x55)), (.v (.int .i64 x56)), (.v (.sl x57)), (.v (.int .i64 x58)), (.v (.int .i64 x59)), (.v (.int .i64 x60)), (.v (.int .i64 x61)), (.v (.sl x62)), (.v (.int .i64 x63)), (.v (.int .i64 (IntKind.wrap .i64 (x64 + 1)))), (.v (.str x65)), (.v (.str x66)), (.v (.str x67)), (.v (.str x68)), (.v (.str x69)), (.v (.str x70)), (.l (hL v.2 21))])))))))))))
(some (.inr (1, [(.v (.pt x50)), (.v (.str x51)), (.v (.str x52)), (.v (.sl x54)), (.v (.int .i64 x55)), (.v (.int .i64 x56)), (.v (.sl x57)), (.v (.int .i64 x58)), (.v (.int .i64 x59)), (.v (.int .i64 x60)), (.v (.int .i64 x61)), (.v (.str x65)), (.v (.str x66)), (.v (.str x67)), (.v (.str x68)), (.v (.str x69)), (.v (.str x70)), (.l (hL v.2 21))])))))))))))))))))))))))))]
noncomputable def pfind_L2 (v : Vs) : Option (Vs ⊕ Vs) := sel v.1 [((asPt? (hV v.2 0)).bind fun x30 =>
((asStr? (hV v.2 1)).bind fun x31 =>
((asStr? (hV v.2 2)).bind fun x32 =>
((asSl? (hV v.2 3)).bind fun x33 =>
((asInt? .i64 (hV v.2 4)).bind fun x34 =>
((asInt? .i64 (hV v.2 5)).bind fun x35 =>
((asSl? (hV v.2 6)).bind fun x36 =>
((asInt? .i64 (hV v.2 7)).bind fun x37 =>
((asInt? .i64 (hV v.2 8)).bind fun x38 =>
((asInt? .i64 (hV v.2 9)).bind fun x39 =>
((asInt? .i64 (hV v.2 10)).bind fun x40 =>
((asStr? (hV v.2 11)).bind fun x41 =>
((asStr? (hV v.2 12)).bind fun x42 =>
((asStr? (hV v.2 13)).bind fun x43 =>
((asStr? (hV v.2 14)).bind fun x44 =>
((asStr? (hV v.2 15)).bind fun x45 =>
((asStr? (hV v.2 16)).bind fun x46 =>
(cond (decide (x40 < x39))
((idxL (hL v.2 17) x40).bind fun x47 =>
((asStr? x47).bind fun x48 =>
((pcats x41 x42 x43 x44 x45 x46).bind fun x49 =>
((loopK pfind_L3 FU (0, [(.v (.pt x30)), (.v (.str x31)), (.v (.str x32)), (.v (.str x48)), (.v (.sl x33)), (.v (.int .i64 x34)), (.v (.int .i64 x35)), (.v (.sl x36)), (.v (.int .i64 x37)), (.v (.int .i64 x38)), (.v (.int .i64 x39)), (.v (.int .i64 x40)), (.v (.sl x49)), (.v (.int .i64 ((slLen x49 : Nat) : Int))), (.v (.int .i64 0)), (.v (.str x41)), (.v (.str x42)), (.v (.str x43)), (.v (.str x44)), (.v (.str x45)), (.v (.str x46)), (.l (hL v.2 17))])).bind fun x78 => sel x78.1 [((asStr? (hV x78.2 0)).bind fun x79 =>
((asBool? (hV x78.2 1)).bind fun x80 =>
(some (.inr (0, [(.v (.str x79)), (.v (.bool x80))]))))),
((asPt? (hV x78.2 0)).bind fun x81 =>
((asStr? (hV x78.2 1)).bind fun x82 =>
((asStr? (hV x78.2 2)).bind fun x83 =>
((asSl? (hV x78.2 3)).bind fun x84 =>
((asInt? .i64 (hV x78.2 4)).bind fun x85 =>
((asInt? .i64 (hV x78.2 5)).bind fun x86 =>
((asSl? (hV x78.2 6)).bind fun x87 =>
((asInt? .i64 (hV x78.2 7)).bind fun x88 =>
((asInt? .i64 (hV x78.2 8)).bind fun x89 =>
((asInt? .i64 (hV x78.2 9)).bind fun x90 =>
((asInt? .i64 (hV x78.2 10)).bind fun x91 =>
((asStr? (hV x78.2 11)).bind fun x92 =>
((asStr? (hV x78.2 12)).bind fun x93 =>
((asStr? (hV x78.2 13)).bind fun x94 =>
((asStr? (hV x78.2 14)).bind fun x95 =>
((asStr? (hV x78.2 15)).bind fun x96 =>
((asStr? (hV x78.2 16)).bind fun x97 =>
(some (.inl (0, [(.v (.pt x81)), (.v (.str x82)), (.v (.str x83)), (.v (.sl x84)), (.v (.int .i64 x85)), (.v (.int .i64 x86)), (.v (.sl x87)), (.v (.int .i64 x88)), (.v (.int .i64 x89)), (.v (.int .i64 x90)), (.v (.int .i64 (IntKind.wrap .i64 (x91 + 1)))), (.v (.str x92)), (.v (.str x93)), (.v (.str x94)), (.v (.str x95)), (.v (.str x96)), (.v (.str x97)), (.l (hL x78.2 17))]))))))))))))))))))))]))))
(some (.inr (1, [(.v (.pt x30)), (.v (.str x31)), (.v (.sl x33)), (.v (.int .i64 x34)), (.v (.int .i64 x35)), (.v (.sl x36)), (.v (.int .i64 x37)), (.v (.int .i64 x38)), (.v (.str x41)), (.v (.str x42)), (.v (.str x43)), (.v (.str x44)), (.v (.str x45)), (.v (.str x46))])))))))))))))))))))))]
noncomputable def pfind_L1 (v : Vs) : Option (Vs ⊕ Vs) := sel v.1 [((asPt? (hV v.2 0)).bind fun x14 =>
((asStr? (hV v.2 1)).bind fun x15 =>
((asSl? (hV v.2 2)).bind fun x16 =>
((asInt? .i64 (hV v.2 3)).bind fun x17 =>
((asInt? .i64 (hV v.2 4)).bind fun x18 =>
((asSl? (hV v.2 5)).bind fun x19 =>
((asInt? .i64 (hV v.2 6)).bind fun x20 =>
((asInt? .i64 (hV v.2 7)).bind fun x21 =>
((asStr? (hV v.2 8)).bind fun x22 =>
((asStr? (hV v.2 9)).bind fun x23 =>
((asStr? (hV v.2 10)).bind fun x24 =>
((asStr? (hV v.2 11)).bind fun x25 =>
((asStr? (hV v.2 12)).bind fun x26 =>
((asStr? (hV v.2 13)).bind fun x27 =>
(cond (decide (x21 < x20))
((idxL (x19.getD []) x21).bind fun x28 =>
((asStr? x28).bind fun x29 =>
((loopK pfind_L2 FU (0, [(.v (.pt x14)), (.v (.str x15)), (.v (.str x29)), (.v (.sl x16)), (.v (.int .i64 x17)), (.v (.int .i64 x18)), (.v (.sl x19)), (.v (.int .i64 x20)), (.v (.int .i64 x21)), (.v (.int .i64 2)), (.v (.int .i64 0)), (.v (.str x22)), (.v (.str x23)), (.v (.str x24)), (.v (.str x25)), (.v (.str x26)), (.v (.str x27)), (.l [(.str x27), (.str [])])])).bind fun x98 => sel x98.1 [((asStr? (hV x98.2 0)).bind fun x99 =>
((asBool? (hV x98.2 1)).bind fun x100 =>
(some (.inr (0, [(.v (.str x99)), (.v (.bool x100))]))))),
((asPt? (hV x98.2 0)).bind fun x101 =>
((asStr? (hV x98.2 1)).bind fun x102 =>
((asSl? (hV x98.2 2)).bind fun x103 =>
((asInt? .i64 (hV x98.2 3)).bind fun x104 =>
((asInt? .i64 (hV x98.2 4)).bind fun x105 =>
((asSl? (hV x98.2 5)).bind fun x106 =>
((asInt? .i64 (hV x98.2 6)).bind fun x107 =>
((asInt? .i64 (hV x98.2 7)).bind fun x108 =>
((asStr? (hV x98.2 8)).bind fun x109 =>
((asStr? (hV x98.2 9)).bind fun x110 =>
((asStr? (hV x98.2 10)).bind fun x111 =>
((asStr? (hV x98.2 11)).bind fun x112 =>
((asStr? (hV x98.2 12)).bind fun x113 =>
((asStr? (hV x98.2 13)).bind fun x114 =>
(some (.inl (0, [(.v (.pt x101)), (.v (.str x102)), (.v (.sl x103)), (.v (.int .i64 x104)), (.v (.int .i64 x105)), (.v (.sl x106)), (.v (.int .i64 x107)), (.v (.int .i64 (IntKind.wrap .i64 (x108 + 1)))), (.v (.str x109)), (.v (.str x110)), (.v (.str x111)), (.v (.str x112)), (.v (.str x113)), (.v (.str x114))])))))))))))))))))])))
(some (.inr (1, [(.v (.pt x14)), (.v (.sl x16)), (.v (.int .i64 x17)), (.v (.int .i64 x18)), (.v (.str x22)), (.v (.str x23)), (.v (.str x24)), (.v (.str x25)), (.v (.str x26)), (.v (.str x27))]))))))))))))))))))]
noncomputable def pfind_L0 (v : Vs) : Option (Vs ⊕ Vs) := sel v.1 [((asPt? (hV v.2 0)).bind fun x1 =>
((asSl? (hV v.2 1)).bind fun x2 =>
((asInt? .i64 (hV v.2 2)).bind fun x3 =>
((asInt? .i64 (hV v.2 3)).bind fun x4 =>
((asStr? (hV v.2 4)).bind fun x5 =>
((asStr? (hV v.2 5)).bind fun x6 =>
((asStr? (hV v.2 6)).bind fun x7 =>
((asStr? (hV v.2 7)).bind fun x8 =>
((asStr? (hV v.2 8)).bind fun x9 =>
((asStr? (hV v.2 9)).bind fun x10 =>
(cond (decide (x4 < x3))
((idxL (x2.getD []) x4).bind fun x11 =>
((asStr? x11).bind fun x12 =>
((pwidths x7).bind fun x13 =>
((loopK pfind_L1 FU (0, [(.v (.pt x1)), (.v (.str x12)), (.v (.sl x2)), (.v (.int .i64 x3)), (.v (.int .i64 x4)), (.v (.sl x13)), (.v (.int .i64 ((slLen x13 : Nat) : Int))), (.v (.int .i64 0)), (.v (.str x5)), (.v (.str x6)), (.v (.str x7)), (.v (.str x8)), (.v (.str x9)), (.v (.str x10))])).bind fun x115 => sel x115.1 [((asStr? (hV x115.2 0)).bind fun x116 =>
((asBool? (hV x115.2 1)).bind fun x117 =>
(some (.inr (0, [(.v (.str x116)), (.v (.bool x117))]))))),
((asPt? (hV x115.2 0)).bind fun x118 =>
((asSl? (hV x115.2 1)).bind fun x119 =>
((asInt? .i64 (hV x115.2 2)).bind fun x120 =>
((asInt? .i64 (hV x115.2 3)).bind fun x121 =>
((asStr? (hV x115.2 4)).bind fun x122 =>
((asStr? (hV x115.2 5)).bind fun x123 =>
((asStr? (hV x115.2 6)).bind fun x124 =>
((asStr? (hV x115.2 7)).bind fun x125 =>
((asStr? (hV x115.2 8)).bind fun x126 =>
((asStr? (hV x115.2 9)).bind fun x127 =>
(some (.inl (0, [(.v (.pt x118)), (.v (.sl x119)), (.v (.int .i64 x120)), (.v (.int .i64 (IntKind.wrap .i64 (x121 + 1)))), (.v (.str x122)), (.v (.str x123)), (.v (.str x124)), (.v (.str x125)), (.v (.str x126)), (.v (.str x127))])))))))))))))]))))
(some (.inr (1, []))))))))))))))]
noncomputable def pfind (a0 : Option (List V)) (a1 : List UInt8) (a2 : List UInt8) (a3 : List UInt8) (a4 : List UInt8) (a5 : List UInt8) (a6 : List UInt8) : Option (List UInt8 × Bool) :=
((pchain a0 a2).bind fun x0 =>
((loopK pfind_L0 FU (0, [(.v (.pt a0)), (.v (.sl x0)), (.v (.int .i64 ((slLen x0 : Nat) : Int))), (.v (.int .i64 0)), (.v (.str a1)), (.v (.str a2)), (.v (.str a3)), (.v (.str a4)), (.v (.str a5)), (.v (.str a6))])).bind fun x128 => sel x128.1 [((asStr? (hV x128.2 0)).bind fun x129 =>
((asBool? (hV x128.2 1)).bind fun x130 =>
(some (x129, x130)))),
(some ([], false))]))
/-! cubit/pattern.Fill -/
/-- What stands at one place of a text that is filled: an argument's sign (A), or a byte (B); E: at its end. -/
noncomputable def fillD (x0 : List UInt8) (x1 : Option (List V)) (x2 : Int) (A : List UInt8 → Option (Vs ⊕ Vs)) (B : UInt8 → Option (Vs ⊕ Vs)) (E : Option (Vs ⊕ Vs)) : Option (Vs ⊕ Vs) :=
(cond (decide (x2 < (((x0 : List UInt8).length : Nat) : Int)))
((cutL (some x2) (some (if (((x0 : List UInt8).length : Nat) : Int) < (IntKind.wrap .i64 (x2 + 3)) then (((x0 : List UInt8).length : Nat) : Int) else (IntKind.wrap .i64 (x2 + 3)))) x0).bind fun x3 =>
(cond ((((x3 : List UInt8).length : Nat) : Int) == 3)
((idxL x3 0).bind fun x4 =>
(cond (((x4.toNat : Nat) : Int) == 123)
((idxL x3 2).bind fun x5 =>
(cond (((x5.toNat : Nat) : Int) == 125)
((idxL x3 1).bind fun x6 =>
(cond (decide (((x6.toNat : Nat) : Int) ≥ 48))
((idxL x3 1).bind fun x7 =>
(cond (decide (((x7.toNat : Nat) : Int) ≤ 57))
((idxL x3 1).bind fun x8 =>
(cond (decide ((IntKind.wrap .i64 ((IntKind.wrap .u8 (((x8.toNat : Nat) : Int) - 48)))) < ((slLen x1 : Nat) : Int)))
((idxL x3 1).bind fun x9 =>
((idxL (x1.getD []) (IntKind.wrap .u8 (((x9.toNat : Nat) : Int) - 48))).bind fun x10 =>
((asStr? x10).bind fun x11 => A x11)))
((idxL x0 x2).bind fun x12 => B x12)))
((idxL x0 x2).bind fun x13 => B x13)))
((idxL x0 x2).bind fun x14 => B x14)))
((idxL x0 x2).bind fun x15 => B x15)))
((idxL x0 x2).bind fun x16 => B x16)))
((idxL x0 x2).bind fun x17 => B x17)))
E)
noncomputable def pfill_L0 (v : Vs) : Option (Vs ⊕ Vs) := sel v.1 [((asStr? (hV v.2 0)).bind fun x0 =>
((asSl? (hV v.2 1)).bind fun x1 =>
((asInt? .i64 (hV v.2 2)).bind fun x2 =>
fillD x0 x1 x2 (fun x11 => (cond ((strV x11).isEmpty)
(some (.inl (1, [(.v (.str x0)), (.v (.sl x1)), (.v (.int .i64 (IntKind.wrap .i64 ((IntKind.wrap .i64 (x2 + 2)) + 1))))])))
(chk ((fits (strV x11).length) && ((strV x11).all (okEl 1)))
(some (.inl (2, [(.v (.str x0)), (.v (.sl x1)), (.v (.int .i64 (IntKind.wrap .i64 ((IntKind.wrap .i64 (x2 + 2)) + 1)))), (.l (strV x11))]))))))
(fun x12 => (some (.inl (2, [(.v (.str x0)), (.v (.sl x1)), (.v (.int .i64 (IntKind.wrap .i64 (x2 + 1)))), (.l [(.int .u8 ((x12.toNat : Nat) : Int))])]))))
(some (.inr (0, [])))))),
((asStr? (hV v.2 0)).bind fun x18 =>
((asSl? (hV v.2 1)).bind fun x19 =>
((asInt? .i64 (hV v.2 2)).bind fun x20 =>
fillD x18 x19 x20 (fun x29 => (cond ((strV x29).isEmpty)
(some (.inl (1, [(.v (.str x18)), (.v (.sl x19)), (.v (.int .i64 (IntKind.wrap .i64 ((IntKind.wrap .i64 (x20 + 2)) + 1))))])))
(chk ((fits (strV x29).length) && ((strV x29).all (okEl 1)))
(some (.inl (2, [(.v (.str x18)), (.v (.sl x19)), (.v (.int .i64 (IntKind.wrap .i64 ((IntKind.wrap .i64 (x20 + 2)) + 1)))), (.l (strV x29))]))))))
(fun x30 => (some (.inl (2, [(.v (.str x18)), (.v (.sl x19)), (.v (.int .i64 (IntKind.wrap .i64 (x20 + 1)))), (.l [(.int .u8 ((x30.toNat : Nat) : Int))])]))))
(some (.inr (1, [])))))),
((asStr? (hV v.2 0)).bind fun x36 =>
((asSl? (hV v.2 1)).bind fun x37 =>
((asInt? .i64 (hV v.2 2)).bind fun x38 =>
fillD x36 x37 x38 (fun x47 =>
(chk ((fits ((hL v.2 3).length + (strV x47).length)) && ((strV x47).all (okEl 1)))
(some (.inl (2, [(.v (.str x36)), (.v (.sl x37)), (.v (.int .i64 (IntKind.wrap .i64 ((IntKind.wrap .i64 (x38 + 2)) + 1)))), (.l ((hL v.2 3) ++ (strV x47) : List V))])))))
(fun x48 => (chk ((fits ((hL v.2 3).length + 1)) && true)
(some (.inl (2, [(.v (.str x36)), (.v (.sl x37)), (.v (.int .i64 (IntKind.wrap .i64 (x38 + 1)))), (.l ((hL v.2 3) ++ [(.int .u8 ((x48.toNat : Nat) : Int))] : List V))])))))
(some (.inr (2, [(.l (hL v.2 3))]))))))]
noncomputable def pfill (a0 : List UInt8) (a1 : Option (List V)) : Option (List UInt8) :=
((loopK pfill_L0 FU (0, [(.v (.str a0)), (.v (.sl a1)), (.v (.int .i64 0))])).bind fun x54 => sel x54.1 [(some ([])),
(some ([])),
((bytesOf (hL x54.2 0)).bind fun x55 =>
(chk (decide (0 < (hL x54.2 0).length) && List.all (hL x54.2 0) okB)
(some (x55))))])
/-! cubit/pattern.key -/
noncomputable def pkey_L0 (v : Vs) : Option (Vs ⊕ Vs) := sel v.1 [((asSl? (hV v.2 0)).bind fun x16 =>
((asInt? .i64 (hV v.2 1)).bind fun x17 =>
((asSl? (hV v.2 2)).bind fun x18 =>
((asInt? .i64 (hV v.2 3)).bind fun x19 =>
((asInt? .i64 (hV v.2 4)).bind fun x20 =>
((asStr? (hV v.2 5)).bind fun x21 =>
((asStr? (hV v.2 6)).bind fun x22 =>
((asStr? (hV v.2 7)).bind fun x23 =>
((asStr? (hV v.2 8)).bind fun x24 =>
((asStr? (hV v.2 9)).bind fun x25 =>
((asStr? (hV v.2 10)).bind fun x26 =>
(cond (decide (x20 < x19))
((idxL (x18.getD []) x20).bind fun x27 =>
((asStr? x27).bind fun x28 =>
((pname x28).bind fun x29 =>
(cond (!x29)
(some (.inr (0, [(.v (.bool false)), (.v (.str [])), (.v (.str [])), (.v (.str [])), (.v (.str [])), (.v (.str [])), (.v (.str []))])))
(some (.inl (0, [(.v (.sl x16)), (.v (.int .i64 x17)), (.v (.sl x18)), (.v (.int .i64 x19)), (.v (.int .i64 (IntKind.wrap .i64 (x20 + 1)))), (.v (.str x21)), (.v (.str x22)), (.v (.str x23)), (.v (.str x24)), (.v (.str x25)), (.v (.str x26))])))))))
(some (.inr (1, [(.v (.sl x16)), (.v (.int .i64 x17)), (.v (.str x21)), (.v (.str x22)), (.v (.str x23)), (.v (.str x24)), (.v (.str x25)), (.v (.str x26))])))))))))))))))]
noncomputable def pkeyT (tN : TypeId) (a0 : Option (List V)) : Option (List UInt8 × List UInt8 × List UInt8 × List UInt8 × List UInt8 × List UInt8 × Bool) :=
((putE ⟨false, [.s]⟩ (.str [119, 111, 114, 100]) (T2.a (.v (.int .i64 7))) []).bind fun x0 =>
(chk (fits (x0.length + 1))
((putE ⟨false, [.s]⟩ (.str [112, 111, 119, 101, 114]) (T2.a (.v (.int .i64 6))) x0).bind fun x1 =>
(chk (fits (x1.length + 1))
((putE ⟨false, [.s]⟩ (.str [112, 114, 101, 102, 105, 120, 101, 100]) (T2.a (.v (.int .i64 5))) x1).bind fun x2 =>
(chk (fits (x2.length + 1))
((putE ⟨false, [.s]⟩ (.str [112, 101, 114]) (T2.a (.v (.int .i64 4))) x2).bind fun x3 =>
(chk (fits (x3.length + 1))
((putE ⟨false, [.s]⟩ (.str [116, 105, 109, 101, 115]) (T2.a (.v (.int .i64 4))) x3).bind fun x4 =>
((idxL (a0.getD []) 0).bind fun x5 =>
((asStr? x5).bind fun x6 =>
((lookE ⟨false, [.s]⟩ (.str x6) x4).bind fun x7 =>
((asInt? .i64 (x7.getD (.int .i64 0))).bind fun x8 =>
(cond (((slLen a0 : Nat) : Int) != x8)
(some ([], [], [], [], [], [], false))
((idxL (a0.getD []) 1).bind fun x9 =>
((asStr? x9).bind fun x10 =>
((plang x10).bind fun x11 =>
(cond (!x11)
(some ([], [], [], [], [], [], false))
((idxL (a0.getD []) 2).bind fun x12 =>
((asStr? x12).bind fun x13 =>
((pwidth x13).bind fun x14 =>
(cond (!x14)
(some ([], [], [], [], [], [], false))
((cutSl 1 (some 3) (some (IntKind.wrap .i64 (x8 - 1))) a0).bind fun x15 =>
((loopK pkey_L0 FU (0, [(.v (.sl a0)), (.v (.int .i64 x8)), (.v (.sl x15)), (.v (.int .i64 ((slLen x15 : Nat) : Int))), (.v (.int .i64 0)), (.v (.str [])), (.v (.str [])), (.v (.str [])), (.v (.str [])), (.v (.str [])), (.v (.str []))])).bind fun x30 => sel x30.1 [((asBool? (hV x30.2 0)).bind fun x31 =>
((asStr? (hV x30.2 1)).bind fun x32 =>
((asStr? (hV x30.2 2)).bind fun x33 =>
((asStr? (hV x30.2 3)).bind fun x34 =>
((asStr? (hV x30.2 4)).bind fun x35 =>
((asStr? (hV x30.2 5)).bind fun x36 =>
((asStr? (hV x30.2 6)).bind fun x37 =>
(some (x32, x33, x34, x35, x36, x37, x31))))))))),
((asSl? (hV x30.2 0)).bind fun x38 =>
((asInt? .i64 (hV x30.2 1)).bind fun x39 =>
((asStr? (hV x30.2 2)).bind fun x40 =>
((asStr? (hV x30.2 3)).bind fun x41 =>
((asStr? (hV x30.2 4)).bind fun x42 =>
((asStr? (hV x30.2 5)).bind fun x43 =>
((asStr? (hV x30.2 6)).bind fun x44 =>
((asStr? (hV x30.2 7)).bind fun x45 =>
((idxL (x38.getD []) 0).bind fun x46 =>
((asStr? x46).bind fun x47 =>
((idxL (x38.getD []) 1).bind fun x48 =>
((asStr? x48).bind fun x49 =>
((idxL (x38.getD []) 2).bind fun x50 =>
((asStr? x50).bind fun x51 =>
((idxL (x38.getD []) (IntKind.wrap .i64 (x39 - 1))).bind fun x52 =>
((asStr? x52).bind fun x53 =>
((rblank x53).bind fun x54 =>
((psigns x54).bind fun x55 =>
((idxL (x38.getD []) 0).bind fun x56 =>
((asStr? x56).bind fun x57 =>
(cond (x57 == [119, 111, 114, 100])
((idxL (x38.getD []) 3).bind fun x58 =>
((asStr? x58).bind fun x59 =>
((idxL (x38.getD []) 4).bind fun x60 =>
((asStr? x60).bind fun x61 =>
((idxL (x38.getD []) 5).bind fun x62 =>
((asStr? x62).bind fun x63 =>
((psome x63).bind fun x64 =>
(cond (decide (x55.1 ≤ 1))
(some (x47, x49, x51, x59, x61, x64, (x55.2 == 0)))
(some (x47, x49, x51, x59, x61, x64, false))))))))))
(cond (x57 == [112, 111, 119, 101, 114])
((idxL (x38.getD []) 3).bind fun x65 =>
((asStr? x65).bind fun x66 =>
((atoiT tN x66).bind fun x67 =>
((idxL (x38.getD []) 3).bind fun x68 =>
((asStr? x68).bind fun x69 =>
((idxL (x38.getD []) 4).bind fun x70 =>
((asStr? x70).bind fun x71 =>
((psome x71).bind fun x72 =>
(cond (x55.1 == 1)
(cond (x55.2 == 0)
((nilI x67.2).bind fun x73 =>
(cond x73
((itoa x67.1).bind fun x74 =>
((idxL (x38.getD []) 3).bind fun x75 =>
((asStr? x75).bind fun x76 =>
(cond (x74 == x76)
(cond (decide (x67.1 ≥ 2))
(some (x47, x49, x51, x69, x72, [], (decide (x67.1 ≤ 15))))
(some (x47, x49, x51, x69, x72, [], false)))
(some (x47, x49, x51, x69, x72, [], false))))))
(some (x47, x49, x51, x69, x72, [], false))))
(some (x47, x49, x51, x69, x72, [], false)))
(some (x47, x49, x51, x69, x72, [], false)))))))))))
(cond (x57 == [112, 114, 101, 102, 105, 120, 101, 100])
((idxL (x38.getD []) 3).bind fun x77 =>
((asStr? x77).bind fun x78 =>
(cond (x55.1 == 1)
(some (x47, x49, x51, x78, [], [], (x55.2 == 0)))
(some (x47, x49, x51, x78, [], [], false)))))
(cond (x55.1 == 1)
(some (x47, x49, x51, [], [], [], (x55.2 == 1)))
(some (x47, x49, x51, [], [], [], false))))))))))))))))))))))))))]))))))))))))))))))))))))
/-! cubit/pattern.Load -/
noncomputable def pload_L1 (v : Vs) : Option (Vs ⊕ Vs) := sel v.1 [((asStr? (hV v.2 0)).bind fun x29 =>
((asBool? (hV v.2 1)).bind fun x30 =>
(cond x30
(cond (!(x29 == [114, 111, 111, 116]))
((lookE ⟨false, [.s]⟩ (.str x29) (hM v.2 3)).bind fun x31 =>
((asStr? (x31.getD (.str []))).bind fun x32 =>
(some (.inl (1, [(.v (.str x32)), (.v (.bool (x31.isSome))), (.m (hM v.2 2)), (.m (hM v.2 3)), (.l [(.str x29)])])))))
(some (.inr (0, [(.m (hM v.2 2)), (.m (hM v.2 3))]))))
(some (.inr (0, [(.m (hM v.2 2)), (.m (hM v.2 3))])))))),
((asStr? (hV v.2 0)).bind fun x33 =>
((asBool? (hV v.2 1)).bind fun x34 =>
(cond x34
(cond (!(x33 == [114, 111, 111, 116]))
(chk ((fits ((hL v.2 4).length + 1)) && true)
((lookE ⟨false, [.s]⟩ (.str x33) (hM v.2 3)).bind fun x35 =>
((asStr? (x35.getD (.str []))).bind fun x36 =>
(some (.inl (1, [(.v (.str x36)), (.v (.bool (x35.isSome))), (.m (hM v.2 2)), (.m (hM v.2 3)), (.l ((hL v.2 4) ++ [(.str x33)] : List V))]))))))
(some (.inr (1, [(.m (hM v.2 2)), (.m (hM v.2 3)), (.l (hL v.2 4))]))))
(some (.inr (1, [(.m (hM v.2 2)), (.m (hM v.2 3)), (.l (hL v.2 4))]))))))]
noncomputable def pload_L2 (v : Vs) : Option (Vs ⊕ Vs) := sel v.1 [((asSl? (hV v.2 0)).bind fun x40 =>
((asStr? (hV v.2 1)).bind fun x41 =>
((asInt? .i64 (hV v.2 2)).bind fun x42 =>
((asInt? .i64 (hV v.2 3)).bind fun x43 =>
(cond (decide (x43 < x42))
((idxL (x40.getD []) x43).bind fun x44 =>
((asStr? x44).bind fun x45 =>
(cond (x41 == x45)
(some (.inr (0, [(.v (.int .i64 x43))])))
(some (.inl (0, [(.v (.sl x40)), (.v (.str x41)), (.v (.int .i64 x42)), (.v (.int .i64 (IntKind.wrap .i64 (x43 + 1))))]))))))
(some (.inr (1, []))))))))]
/-- A text's row. -/
noncomputable def ptext (tN : TypeId) (x0 : Option (List V)) (x1 x2 x5 : Int) (x6 : Option (List V)) (w p : List (V × T2)) : Option (Vs ⊕ Vs) :=
((pkeyT tN x6).bind fun x9 =>
(cond (!x9.2.2.2.2.2.2)
(some (.inr (0, [(.v (.int .i64 x5)), (.v (.int .i64 2))])))
((lookE ⟨true, [.s, .s, .s, .s, .s, .s]⟩ (.agg [(.str x9.1), (.str x9.2.1), (.str x9.2.2.1), (.str x9.2.2.2.1), (.str x9.2.2.2.2.1), (.str x9.2.2.2.2.2.1)]) w).bind fun x10 =>
((asStr? (x10.getD (.str []))).bind fun x11 =>
(cond (x10.isSome)
(some (.inr (0, [(.v (.int .i64 x5)), (.v (.int .i64 10))])))
((idxL (x6.getD []) (IntKind.wrap .i64 (((slLen x6 : Nat) : Int) - 1))).bind fun x12 =>
((asStr? x12).bind fun x13 =>
((rblank x13).bind fun x14 =>
(chk (fits (w.length + 1))
((putE ⟨true, [.s, .s, .s, .s, .s, .s]⟩ (.agg [(.str x9.1), (.str x9.2.1), (.str x9.2.2.1), (.str x9.2.2.2.1), (.str x9.2.2.2.2.1), (.str x9.2.2.2.2.2.1)]) (T2.a (.v (.str x14))) w).bind fun x15 =>
(some (.inl (0, [(.v (.sl x0)), (.v (.int .i64 x1)), (.v (.int .i64 (IntKind.wrap .i64 (x2 + 1)))), (.m x15), (.m p)])))))))))))))
/-- A parent's row. -/
noncomputable def pabove (x0 : Option (List V)) (x1 x2 x5 : Int) (x6 : Option (List V)) (w p : List (V × T2)) : Option (Vs ⊕ Vs) :=
((cutSl 1 (some 1) none x6).bind fun x16 =>
(cond (((slLen x16 : Nat) : Int) != 2)
(some (.inr (0, [(.v (.int .i64 x5)), (.v (.int .i64 2))])))
((idxL (x16.getD []) 0).bind fun x17 =>
((asStr? x17).bind fun x18 =>
((plang x18).bind fun x19 =>
(cond (!x19)
(some (.inr (0, [(.v (.int .i64 x5)), (.v (.int .i64 2))])))
((idxL (x16.getD []) 1).bind fun x20 =>
((asStr? x20).bind fun x21 =>
((plang x21).bind fun x22 =>
(cond (!x22)
(some (.inr (0, [(.v (.int .i64 x5)), (.v (.int .i64 2))])))
((idxL (x16.getD []) 0).bind fun x23 =>
((asStr? x23).bind fun x24 =>
((lookE ⟨false, [.s]⟩ (.str x24) p).bind fun x25 =>
((asStr? (x25.getD (.str []))).bind fun x26 =>
(cond (!(x26 == []))
(some (.inr (0, [(.v (.int .i64 x5)), (.v (.int .i64 10))])))
((idxL (x16.getD []) 1).bind fun x27 =>
((asStr? x27).bind fun x28 =>
((loopK pload_L1 FU (0, [(.v (.str x28)), (.v (.bool true)), (.m w), (.m p)])).bind fun x37 => sel x37.1 [((idxL (x16.getD []) 0).bind fun x38 =>
((asStr? x38).bind fun x39 =>
((loopK pload_L2 FU (0, [(.v (.sl (some [(.str [114, 111, 111, 116])]))), (.v (.str x39)), (.v (.int .i64 1)), (.v (.int .i64 0))])).bind fun x46 => sel x46.1 [((asInt? .i64 (hV x46.2 0)).bind fun x47 =>
(cond (decide (x47 ≥ 0))
(some (.inr (0, [(.v (.int .i64 x5)), (.v (.int .i64 7))])))
((idxL (x16.getD []) 0).bind fun x48 =>
((asStr? x48).bind fun x49 =>
((idxL (x16.getD []) 1).bind fun x50 =>
((asStr? x50).bind fun x51 =>
(chk (fits ((hM x37.2 1).length + 1))
((putE ⟨false, [.s]⟩ (.str x49) (T2.a (.v (.str x51))) (hM x37.2 1)).bind fun x52 =>
(some (.inl (0, [(.v (.sl x0)), (.v (.int .i64 x1)), (.v (.int .i64 (IntKind.wrap .i64 (x2 + 1)))), (.m (hM x37.2 0)), (.m x52)]))))))))))),
((idxL (x16.getD []) 0).bind fun x53 =>
((asStr? x53).bind fun x54 =>
((idxL (x16.getD []) 1).bind fun x55 =>
((asStr? x55).bind fun x56 =>
(chk (fits ((hM x37.2 1).length + 1))
((putE ⟨false, [.s]⟩ (.str x54) (T2.a (.v (.str x56))) (hM x37.2 1)).bind fun x57 =>
(some (.inl (0, [(.v (.sl x0)), (.v (.int .i64 x1)), (.v (.int .i64 (IntKind.wrap .i64 (x2 + 1)))), (.m (hM x37.2 0)), (.m x57)])))))))))]))),
(chk ((fits ((hL x37.2 2).length + 1)) && true)
((idxL (x16.getD []) 0).bind fun x58 =>
((asStr? x58).bind fun x59 =>
((loopK pload_L2 FU (0, [(.v (.sl (some ((hL x37.2 2) ++ [(.str [114, 111, 111, 116])] : List V)))), (.v (.str x59)), (.v (.int .i64 ((slLen (some ((hL x37.2 2) ++ [(.str [114, 111, 111, 116])] : List V)) : Nat) : Int))), (.v (.int .i64 0))])).bind fun x66 => sel x66.1 [((asInt? .i64 (hV x66.2 0)).bind fun x67 =>
(cond (decide (x67 ≥ 0))
(some (.inr (0, [(.v (.int .i64 x5)), (.v (.int .i64 7))])))
((idxL (x16.getD []) 0).bind fun x68 =>
((asStr? x68).bind fun x69 =>
((idxL (x16.getD []) 1).bind fun x70 =>
((asStr? x70).bind fun x71 =>
(chk (fits ((hM x37.2 1).length + 1))
((putE ⟨false, [.s]⟩ (.str x69) (T2.a (.v (.str x71))) (hM x37.2 1)).bind fun x72 =>
(some (.inl (0, [(.v (.sl x0)), (.v (.int .i64 x1)), (.v (.int .i64 (IntKind.wrap .i64 (x2 + 1)))), (.m (hM x37.2 0)), (.m x72)]))))))))))),
((idxL (x16.getD []) 0).bind fun x73 =>
((asStr? x73).bind fun x74 =>
((idxL (x16.getD []) 1).bind fun x75 =>
((asStr? x75).bind fun x76 =>
(chk (fits ((hM x37.2 1).length + 1))
((putE ⟨false, [.s]⟩ (.str x74) (T2.a (.v (.str x76))) (hM x37.2 1)).bind fun x77 =>
(some (.inl (0, [(.v (.sl x0)), (.v (.int .i64 x1)), (.v (.int .i64 (IntKind.wrap .i64 (x2 + 1)))), (.m (hM x37.2 0)), (.m x77)])))))))))]))))]))))))))))))))))))
noncomputable def ploadT_L0 (tN : TypeId) (v : Vs) : Option (Vs ⊕ Vs) := sel v.1 [((asSl? (hV v.2 0)).bind fun x0 =>
((asInt? .i64 (hV v.2 1)).bind fun x1 =>
((asInt? .i64 (hV v.2 2)).bind fun x2 =>
(cond (decide (x2 < x1))
((idxL (x0.getD []) x2).bind fun x3 =>
((asAgg? 2 x3).bind fun x4 =>
((asInt? .i64 (x4.getD 0 .nilp)).bind fun x5 =>
((asSl? (x4.getD 1 .nilp)).bind fun x6 =>
(cond (((slLen x6 : Nat) : Int) == 0)
(some (.inl (0, [(.v (.sl x0)), (.v (.int .i64 x1)), (.v (.int .i64 (IntKind.wrap .i64 (x2 + 1)))), (.m (hM v.2 3)), (.m (hM v.2 4))])))
((idxL (x6.getD []) 0).bind fun x7 =>
((asStr? x7).bind fun x8 =>
(cond (x8 == [119, 111, 114, 100])
(cond (x8 == [119, 111, 114, 100])
(ptext tN x0 x1 x2 x5 x6 (hM v.2 3) (hM v.2 4))
(cond (x8 == [112, 97, 114, 101, 110, 116])
(pabove x0 x1 x2 x5 x6 (hM v.2 3) (hM v.2 4))
(some (.inl (0, [(.v (.sl x0)), (.v (.int .i64 x1)), (.v (.int .i64 (IntKind.wrap .i64 (x2 + 1)))), (.m (hM v.2 3)), (.m (hM v.2 4))])))))
(cond (x8 == [112, 111, 119, 101, 114])
(cond (x8 == [112, 111, 119, 101, 114])
(ptext tN x0 x1 x2 x5 x6 (hM v.2 3) (hM v.2 4))
(cond (x8 == [112, 97, 114, 101, 110, 116])
(pabove x0 x1 x2 x5 x6 (hM v.2 3) (hM v.2 4))
(some (.inl (0, [(.v (.sl x0)), (.v (.int .i64 x1)), (.v (.int .i64 (IntKind.wrap .i64 (x2 + 1)))), (.m (hM v.2 3)), (.m (hM v.2 4))])))))
(cond (x8 == [112, 114, 101, 102, 105, 120, 101, 100])
(cond (x8 == [112, 114, 101, 102, 105, 120, 101, 100])
(ptext tN x0 x1 x2 x5 x6 (hM v.2 3) (hM v.2 4))
(cond (x8 == [112, 97, 114, 101, 110, 116])
(pabove x0 x1 x2 x5 x6 (hM v.2 3) (hM v.2 4))
(some (.inl (0, [(.v (.sl x0)), (.v (.int .i64 x1)), (.v (.int .i64 (IntKind.wrap .i64 (x2 + 1)))), (.m (hM v.2 3)), (.m (hM v.2 4))])))))
(cond (x8 == [112, 101, 114])
(cond (x8 == [112, 101, 114])
(ptext tN x0 x1 x2 x5 x6 (hM v.2 3) (hM v.2 4))
(cond (x8 == [112, 97, 114, 101, 110, 116])
(pabove x0 x1 x2 x5 x6 (hM v.2 3) (hM v.2 4))
(some (.inl (0, [(.v (.sl x0)), (.v (.int .i64 x1)), (.v (.int .i64 (IntKind.wrap .i64 (x2 + 1)))), (.m (hM v.2 3)), (.m (hM v.2 4))])))))
(cond (x8 == [116, 105, 109, 101, 115])
(ptext tN x0 x1 x2 x5 x6 (hM v.2 3) (hM v.2 4))
(cond (x8 == [112, 97, 114, 101, 110, 116])
(pabove x0 x1 x2 x5 x6 (hM v.2 3) (hM v.2 4))
(some (.inl (0, [(.v (.sl x0)), (.v (.int .i64 x1)), (.v (.int .i64 (IntKind.wrap .i64 (x2 + 1)))), (.m (hM v.2 3)), (.m (hM v.2 4))]))))))))))))))))
(some (.inr (1, [(.m (hM v.2 3)), (.m (hM v.2 4))])))))))]
noncomputable def ploadT (tN : TypeId) (a0 : Option (List V)) : Option (Option (List V) × Int × Int) :=
((loopK (ploadT_L0 tN) FU (0, [(.v (.sl a0)), (.v (.int .i64 ((slLen a0 : Nat) : Int))), (.v (.int .i64 0)), (.m []), (.m [])])).bind fun x354 => sel x354.1 [((asInt? .i64 (hV x354.2 0)).bind fun x355 =>
((asInt? .i64 (hV x354.2 1)).bind fun x356 =>
(some (none, x355, x356)))),
((frzE (hM x354.2 0)).bind fun x357 =>
((frzE (hM x354.2 1)).bind fun x358 =>
(some ((some [(.mp (some x357)), (.mp (some x358))]), 0, 0))))])

end Go.Ev

/- Patterns: Load, Find and Fill answer, and what holds of what they answer. Of no program. -/
namespace Go.Ev
set_option linter.unusedSimpArgs false
set_option linter.unusedVariables false
set_option maxRecDepth 100000

/-! ### Chains of languages -/
abbrev PM := List (Str × Str)
abbrev encP (p : PM) : List (V × T2) := encM V.str V.str p
theorem lookP (a : Str) (p : PM) : lookE ⟨false, [.s]⟩ (.str a) (encP p) = some ((getM a p).map V.str) := lookE_enc key1_eq a p
theorem putP (a x : Str) (p : PM) : putE ⟨false, [.s]⟩ (.str a) (.a (.v (.str x))) (encP p) = some (encP (putM a x p)) := putE_enc key1_eq a x p
theorem lookPF (a : Str) (p : PM) : lookM ⟨false, [.s]⟩ (.str a) (some (encF V.str V.str p)) = some ((getM a p).map V.str) := lookM_enc key1_eq a p
def liftP (p : PM) : List (Option Str × Option Str) := p.map fun q => (some q.1, some q.2)
theorem liftP_len (p : PM) : (liftP p).length = p.length := by simp [liftP]
theorem getM_lift (s : Str) : ∀ p : PM, getM (some s) (liftP p) = (getM s p).map some
  | [] => rfl
  | (a, b) :: r => by
    have ih := getM_lift s r
    simp only [liftP, List.map_cons, getM, Option.some.injEq] at ih ⊢
    by_cases h : s = a
    · simp [h]
    · rw [if_neg h, if_neg h]; exact ih
theorem putM_lift (a b : Str) : ∀ p : PM, liftP (putM a b p) = putM (some a) (some b) (liftP p)
  | [] => rfl
  | (c, d) :: r => by
    have ih := putM_lift a b r
    simp only [liftP, List.map_cons, putM, Option.some.injEq] at ih ⊢
    by_cases h : a = c
    · simp [h]
    · rw [if_neg h, if_neg h]; simp only [List.map_cons]; rw [ih]
def goP : Option Str → Bool
  | none => false
  | some s => !(s == sRoot)
abbrev ChP (p : PM) (o : Option Str) (l : List (Option Str)) : Prop := Ch goP (none : Option Str) (liftP p) o l
def acycP (p : PM) : Prop := ∀ o, ∃ l, ChP p o l
def oS (s : Str) (b : Bool) : Option Str := if b then some s else none
theorem nxtP (s : Str) (p : PM) : nxt1 (none : Option Str) (liftP p) (some s) = getM s p := by
  unfold nxt1
  rw [getM_lift]
  cases getM s p <;> rfl
theorem acycP_nil : acycP [] := fun o => Ch.nil rfl o
theorem acycP_len {p : PM} {o : Option Str} {l : List (Option Str)} (h : ChP p o l) : l.length ≤ p.length + 1 := by
  have := h.len rfl
  rwa [liftP_len] at this
/-- A chain's texts. -/
def txt (l : List (Option Str)) : List Str := l.map fun x => x.getD []
theorem txt_len (l : List (Option Str)) : (txt l).length = l.length := by simp [txt]
theorem acycP_put {p : PM} (h : acycP p) {a b : Str} {l : List (Option Str)} (hl : ChP p (some b) l) (ha : a ∉ txt l) : acycP (putM a b p) := by
  intro o
  obtain ⟨k, hk⟩ := h o
  have := Ch.put (c := some a) hl (fun hm => ha (by
    have := List.mem_map_of_mem (f := fun x : Option Str => x.getD []) hm
    exact this)) hk
  rwa [← putM_lift] at this
theorem look_get (o : Option Str) : asStr? ((o.map V.str).getD (.str [])) = some (o.getD []) := by cases o <;> rfl
theorem look_some (o : Option Str) : (o.map V.str).isSome = o.isSome := by cases o <;> rfl
theorem oS_get (o : Option Str) : oS (o.getD []) o.isSome = o := by cases o <;> rfl
theorem fits_of {n : Nat} (h : n ≤ 2147483648) : fits n = true := decide_eq_true h

theorem pload1_loop (W : List (V × T2)) (p : PM) {o : Option Str} {l : List (Option Str)} (h : ChP p o l) : ∀ (s : Str) (b : Bool) (acc : List V) (n : Nat), oS s b = o → acc.length + l.length ≤ 1000000 → l.length + 1 ≤ n →
    loopK pload_L1 n (1, [.v (.str s), .v (.bool b), .m W, .m (encP p), .l acc]) = some (1, [.m W, .m (encP p), .l (acc ++ (txt l).map V.str)]) := by
  induction h with
  | @stop o h =>
    intro s b acc n ho _ hn
    obtain ⟨n, rfl⟩ : ∃ k, n = k + 1 := ⟨n - 1, by omega⟩
    have : pload_L1 (1, [.v (.str s), .v (.bool b), .m W, .m (encP p), .l acc]) = some (.inr (1, [.m W, .m (encP p), .l acc])) := by
      cases b with
      | false => simp [pload_L1, sel, hV, hM, hL]
      | true =>
        subst ho
        have hs : (s == [114, 111, 111, 116]) = true := by simpa [oS, goP, sRoot] using h
        simp [pload_L1, sel, hV, hM, hL, hs]
    unfold loopK
    rw [this]
    simp [txt]
  | @step o l h1 h2 ih =>
    intro s b acc n ho hb hn
    obtain ⟨n, rfl⟩ : ∃ k, n = k + 1 := ⟨n - 1, by omega⟩
    simp only [List.length_cons] at hb hn
    cases b with
    | false => subst ho; cases h1
    | true =>
      subst ho
      have hs : (s == [114, 111, 111, 116]) = false := by simpa [oS, goP, sRoot] using h1
      have hn2 : nxt1 (none : Option Str) (liftP p) (oS s true) = getM s p := nxtP s p
      rw [hn2] at ih
      have hf : fits (acc.length + 1) = true := fits_of (by omega)
      have step : pload_L1 (1, [.v (.str s), .v (.bool true), .m W, .m (encP p), .l acc]) = some (.inl (1, [.v (.str ((getM s p).getD [])), .v (.bool (getM s p).isSome), .m W, .m (encP p), .l (acc ++ [.str s])])) := by
        simp only [pload_L1, sel, hV, hM, hL, List.getD_cons_zero, List.getD_cons_succ, asStr_str, asBool_bool, Option.bind_some, cond_true, hs, Bool.not_false, hf, Bool.and_self, chk_true, lookP, look_get, look_some]
      unfold loopK
      rw [step]
      simp only [Option.bind_some]
      rw [ih _ _ (acc ++ [V.str s]) n (oS_get _) (by simp; omega) (by omega)]
      simp [txt, oS]
theorem pload1_exact (W : List (V × T2)) (p : PM) (s : Str) {l : List (Option Str)} (h : ChP p (some s) l) (hl : l.length ≤ 1000000) :
    loopK pload_L1 FU (0, [.v (.str s), .v (.bool true), .m W, .m (encP p)]) = some (if l = [] then (0, [.m W, .m (encP p)]) else (1, [.m W, .m (encP p), .l ((txt l).map V.str)])) := by
  obtain ⟨n, hn, hn2⟩ : ∃ n, FU = n + 1 ∧ 4000000 ≤ n := ⟨4294967295, rfl, by omega⟩
  rw [hn]
  cases h with
  | stop h =>
    have hs : (s == [114, 111, 111, 116]) = true := by simpa [goP, sRoot] using h
    have : pload_L1 (0, [.v (.str s), .v (.bool true), .m W, .m (encP p)]) = some (.inr (0, [.m W, .m (encP p)])) := by simp [pload_L1, sel, hV, hM, hL, hs]
    unfold loopK
    rw [this]
    simp
  | @step _ l h1 h2 =>
    have hs : (s == [114, 111, 111, 116]) = false := by simpa [goP, sRoot] using h1
    rw [nxtP] at h2
    simp only [List.length_cons] at hl
    have step : pload_L1 (0, [.v (.str s), .v (.bool true), .m W, .m (encP p)]) = some (.inl (1, [.v (.str ((getM s p).getD [])), .v (.bool (getM s p).isSome), .m W, .m (encP p), .l [.str s]])) := by
      simp only [pload_L1, sel, hV, hM, hL, List.getD_cons_zero, List.getD_cons_succ, asStr_str, asBool_bool, Option.bind_some, cond_true, hs, Bool.not_false, lookP, look_get, look_some]
    unfold loopK
    rw [step]
    simp only [Option.bind_some]
    rw [pload1_loop W p h2 _ _ [.str s] n (oS_get _) (by simp; omega) (by omega)]
    simp [txt]

/-- What was loaded. -/
abbrev WM := List (K6 × Str)
abbrev encWM (w : WM) : List (V × T2) := encM key6 V.str w
abbrev Wds (w : WM) (p : PM) : Option (List V) := some [.mp (some (encF key6 V.str w)), .mp (some (encF V.str V.str p))]
theorem pchain_loop (w : WM) (p : PM) {o : Option Str} {l : List (Option Str)} (h : ChP p o l) : ∀ (s : Str) (b : Bool) (acc : List V) (n : Nat), oS s b = o → acc.length + l.length ≤ 1000000 → l.length + 1 ≤ n →
    loopK pchain_L0 n (1, [.v (.pt (Wds w p)), .v (.str s), .v (.bool b), .l acc]) = some (1, [.l (acc ++ (txt l).map V.str)]) := by
  induction h with
  | @stop o h =>
    intro s b acc n ho _ hn
    obtain ⟨n, rfl⟩ : ∃ k, n = k + 1 := ⟨n - 1, by omega⟩
    have : pchain_L0 (1, [.v (.pt (Wds w p)), .v (.str s), .v (.bool b), .l acc]) = some (.inr (1, [.l acc])) := by
      cases b with
      | false => simp [pchain_L0, sel, hV, hM, hL]
      | true =>
        subst ho
        have hs : (s == [114, 111, 111, 116]) = true := by simpa [oS, goP, sRoot] using h
        simp [pchain_L0, sel, hV, hM, hL, hs]
    unfold loopK
    rw [this]
    simp [txt]
  | @step o l h1 h2 ih =>
    intro s b acc n ho hb hn
    obtain ⟨n, rfl⟩ : ∃ k, n = k + 1 := ⟨n - 1, by omega⟩
    simp only [List.length_cons] at hb hn
    cases b with
    | false => subst ho; cases h1
    | true =>
      subst ho
      have hs : (s == [114, 111, 111, 116]) = false := by simpa [oS, goP, sRoot] using h1
      have hn2 : nxt1 (none : Option Str) (liftP p) (oS s true) = getM s p := nxtP s p
      rw [hn2] at ih
      have hf : fits (acc.length + 1) = true := fits_of (by omega)
      have step : pchain_L0 (1, [.v (.pt (Wds w p)), .v (.str s), .v (.bool true), .l acc]) = some (.inl (1, [.v (.pt (Wds w p)), .v (.str ((getM s p).getD [])), .v (.bool (getM s p).isSome), .l (acc ++ [.str s])])) := by
        simp only [pchain_L0, sel, hV, hM, hL, List.getD_cons_zero, List.getD_cons_succ, asStr_str, asBool_bool, asPt_pt, asPtr_pt, asMp_mp, List.length_cons, List.length_nil, if_true, Option.getD_some, Option.bind_some, cond_true, hs, Bool.not_false, hf, Bool.and_self, chk_true, lookPF, look_get, look_some]
      unfold loopK
      rw [step]
      simp only [Option.bind_some]
      rw [ih _ _ (acc ++ [V.str s]) n (oS_get _) (by simp; omega) (by omega)]
      simp [txt, oS]
/-- A language's chain, with the root. -/
theorem pchain_exact (w : WM) (p : PM) (s : Str) {l : List (Option Str)} (h : ChP p (some s) l) (hl : l.length ≤ 1000000) : pchain (Wds w p) s = some (some ((txt l ++ [sRoot]).map V.str)) := by
  obtain ⟨n, hn, hn2⟩ : ∃ n, FU = n + 1 ∧ 4000000 ≤ n := ⟨4294967295, rfl, by omega⟩
  unfold pchain
  rw [hn]
  cases h with
  | stop h =>
    have hs : (s == [114, 111, 111, 116]) = true := by simpa [goP, sRoot] using h
    have : pchain_L0 (0, [.v (.pt (Wds w p)), .v (.str s), .v (.bool true)]) = some (.inr (0, [])) := by simp [pchain_L0, sel, hV, hM, hL, hs]
    unfold loopK
    rw [this]
    rfl
  | @step _ l h1 h2 =>
    have hs : (s == [114, 111, 111, 116]) = false := by simpa [goP, sRoot] using h1
    rw [nxtP] at h2
    simp only [List.length_cons] at hl
    have step : pchain_L0 (0, [.v (.pt (Wds w p)), .v (.str s), .v (.bool true)]) = some (.inl (1, [.v (.pt (Wds w p)), .v (.str ((getM s p).getD [])), .v (.bool (getM s p).isSome), .l [.str s]])) := by
      simp only [pchain_L0, sel, hV, hM, hL, List.getD_cons_zero, List.getD_cons_succ, asStr_str, asBool_bool, asPt_pt, asPtr_pt, asMp_mp, List.length_cons, List.length_nil, if_true, Option.getD_some, Option.bind_some, cond_true, hs, Bool.not_false, lookPF, look_get, look_some]
    unfold loopK
    rw [step]
    simp only [Option.bind_some]
    rw [pchain_loop w p h2 _ _ [.str s] n (oS_get _) (by simp; omega) (by omega)]
    have hf : fits (([V.str s] ++ (txt l).map V.str).length + 1) = true := fits_of (by simp [txt_len]; omega)
    simp only [Option.bind_some, sel, hL, List.getD_cons_zero, hf, Bool.and_self, chk_true]
    simp [txt, sRoot]

/-! ### slices.Index -/
theorem pidx (ts : List Str) (hl : ts.length ≤ 1000000) (s : Str) : (s ∈ ts ∧ ∃ i : Nat, loopK pload_L2 FU (0, [.v (.sl (some (ts.map V.str))), .v (.str s), .v (.int .i64 (ts.length : Int)), .v (.int .i64 0)]) = some (0, [.v (.int .i64 (i : Int))])) ∨
    (s ∉ ts ∧ loopK pload_L2 FU (0, [.v (.sl (some (ts.map V.str))), .v (.str s), .v (.int .i64 (ts.length : Int)), .v (.int .i64 0)]) = some (1, [])) := by
  obtain ⟨r, h1, h2⟩ := loopK_inv (body := pload_L2) (fun v => ∃ i : Nat, i ≤ ts.length ∧ (∀ q, q < i → ts[q]? ≠ some s) ∧ v = (0, [.v (.sl (some (ts.map V.str))), .v (.str s), .v (.int .i64 (ts.length : Int)), .v (.int .i64 (i : Int))]))
    (fun v => match hV v.2 3 with | .int _ k => (ts.length - k).toNat | _ => 0) (fun r => (∃ i : Nat, r = (0, [.v (.int .i64 (i : Int))]) ∧ s ∈ ts) ∨ r = (1, []) ∧ s ∉ ts) (fun v ⟨i, hi, hq, hv⟩ => by
      subst hv
      by_cases hlt : i < ts.length
      · have hd : decide ((i : Int) < (ts.length : Int)) = true := decide_eq_true (by omega)
        have hidx := idxL_map (f := V.str) ts i hlt
        by_cases hs : s = ts[i]
        · have hb : (s == ts[i]) = true := by simpa using hs
          exact .inr ⟨(0, [.v (.int .i64 (i : Int))]), by simp only [pload_L2, sel, hV, List.getD_cons_zero, List.getD_cons_succ, asStr_str, asSl_sl, asInt_int, Option.bind_some, Option.getD_some, hd, cond_true, hidx, hb], .inl ⟨i, rfl, by rw [hs]; exact List.getElem_mem hlt⟩⟩
        · have hb : (s == ts[i]) = false := by simpa using hs
          have hw := w64 (x := (i : Int) + 1) (by omega) (by omega)
          refine .inl ⟨(0, [.v (.sl (some (ts.map V.str))), .v (.str s), .v (.int .i64 (ts.length : Int)), .v (.int .i64 ((i + 1 : Nat) : Int))]), ?_, ⟨i + 1, hlt, fun q hq' => ?_, rfl⟩, ?_⟩
          · simp only [pload_L2, sel, hV, List.getD_cons_zero, List.getD_cons_succ, asStr_str, asSl_sl, asInt_int, Option.bind_some, Option.getD_some, hd, cond_true, hidx, hb, cond_false, hw]
            rfl
          · rcases Nat.lt_or_ge q i with h' | h'
            · exact hq q h'
            · have : q = i := by omega
              subst this
              rw [List.getElem?_eq_getElem hlt]; exact fun e => hs (Option.some.inj e).symm
          · simp only [hV, List.getD_cons_succ, List.getD_cons_zero]; omega
      · have hd : decide ((i : Int) < (ts.length : Int)) = false := decide_eq_false (by omega)
        refine .inr ⟨(1, []), by simp only [pload_L2, sel, hV, List.getD_cons_zero, List.getD_cons_succ, asStr_str, asSl_sl, asInt_int, Option.bind_some, hd, cond_false], .inr ⟨rfl, fun hm => ?_⟩⟩
        obtain ⟨q, hq1, hq2⟩ := List.getElem_of_mem hm
        exact hq q (by omega) (by rw [List.getElem?_eq_getElem hq1, hq2])) FU _ ⟨0, Nat.zero_le _, fun q h => by omega, rfl⟩ (by simp only [hV, FU, List.getD_cons_succ, List.getD_cons_zero]; omega)
  rcases h2 with ⟨i, rfl, hm⟩ | ⟨rfl, hm⟩
  · exact .inl ⟨hm, i, h1⟩
  · exact .inr ⟨hm, h1⟩
end Go.Ev

/- Patterns: a row of words is read, or refused; Load. Of no program. -/
namespace Go.Ev
set_option linter.unusedSimpArgs false
set_option linter.unusedVariables false
set_option maxRecDepth 100000

abbrev pinl (x0 : Option (List V)) (x1 x2 : Int) (W P : List (V × T2)) : Vs ⊕ Vs := .inl (0, [.v (.sl x0), .v (.int .i64 x1), .v (.int .i64 (IntKind.wrap .i64 (x2 + 1))), .m W, .m P])
abbrev pinr (k e : Int) : Vs ⊕ Vs := .inr (0, [.v (.int .i64 k), .v (.int .i64 e)])
theorem encW_cut (w : Str) (ws : List Str) (h : ws.length ≤ 1000000) : cutSl 1 (some 1) none (encW (some (w :: ws))) = some (some (ws.map V.str)) :=
  cutSl_from (xs := (w :: ws).map V.str) (sz := 1) (n := 1) (fun y hy => by obtain ⟨s, _, rfl⟩ := List.mem_map.1 hy; rfl) (by omega) (by simp only [List.length_map, List.length_cons]; omega)
theorem pabove_ok (x0 : Option (List V)) (x1 x2 k : Int) (w : Str) (ws : List Str) (W : List (V × T2)) (p : PM) (hp : acycP p) (hl : p.length ≤ 100000) (hws : ws.length ≤ 1000) :
    Ok (pabove x0 x1 x2 k (encW (some (w :: ws))) W (encP p)) fun r => (∃ e, e ≠ 0 ∧ r = pinr k e) ∨ ∃ a b, acycP (putM a b p) ∧ r = pinl x0 x1 x2 W (encP (putM a b p)) := by
  unfold pabove
  rw [encW_cut w ws (by omega)]
  simp only [Option.bind_some]
  by_cases h2 : ws.length = 2
  · obtain ⟨a, b, rfl⟩ : ∃ a b, ws = [a, b] := by
      match ws, h2 with
      | [a, b], _ => exact ⟨a, b, rfl⟩
    have hs2 : (((slLen (some ([a, b].map V.str)) : Nat) : Int) != 2) = false := rfl
    have i0 : idxL ((some ([a, b].map V.str)).getD []) 0 = some (.str a) := rfl
    have i1 : idxL ((some ([a, b].map V.str)).getD []) 1 = some (.str b) := rfl
    simp only [hs2, cond_false, i0, i1, Option.bind_some, asStr_str, plang_exact, lookP, look_get]
    cases (a == sRoot || okLang a) with
    | false => simp
    | true =>
    cases (b == sRoot || okLang b) with
    | false => simp
    | true =>
    cases hg : ((getM a p).getD [] == ([] : Str)) with
    | false => simp [hg]
    | true =>
    obtain ⟨l, hch⟩ := hp (some b)
    have hlen := acycP_len hch
    have hfm : fits ((encP p).length + 1) = true := by rw [encM_len]; exact fits_of (by omega)
    have hin : a ∉ txt l ++ [sRoot] → acycP (putM a b p) := fun h => acycP_put hp hch fun hm => h (List.mem_append_left _ hm)
    rw [pload1_exact W p b hch (by omega)]
    by_cases hln : l = []
    · subst hln
      rw [if_pos rfl]
      rcases pidx [sRoot] (by simp) a with ⟨_, i, h⟩ | ⟨hm, h⟩
      · have e1 : loopK pload_L2 FU (0, [(.v (.sl (some [(.str [114, 111, 111, 116])]))), (.v (.str a)), (.v (.int .i64 1)), (.v (.int .i64 0))]) = some (0, [.v (.int .i64 (i : Int))]) := h
        have hd : decide ((i : Int) ≥ 0) = true := decide_eq_true (by omega)
        simp [hV, hM, sel, e1, hd]
      · have e1 : loopK pload_L2 FU (0, [(.v (.sl (some [(.str [114, 111, 111, 116])]))), (.v (.str a)), (.v (.int .i64 1)), (.v (.int .i64 0))]) = some (1, []) := h
        simp only [hV, hM, sel, List.getD_cons_zero, List.getD_cons_succ, e1, Option.bind_some, Bool.not_true, cond_false, hfm, chk_true, putP, ok_some]
        exact .inr ⟨a, b, hin (by simpa [txt] using hm), rfl⟩
    · rw [if_neg hln]
      have hf2 : fits (((txt l).map V.str).length + 1) = true := fits_of (by simp [txt_len]; omega)
      have hls : (((slLen (some ((txt l ++ [sRoot]).map V.str)) : Nat) : Int)) = ((txt l ++ [sRoot]).length : Int) := by simp [slLen]
      have hmp : (((txt l).map V.str) ++ [(.str [114, 111, 111, 116])] : List V) = (txt l ++ [sRoot]).map V.str := by simp [sRoot]
      simp only [hV, hM, hL, sel, List.getD_cons_zero, List.getD_cons_succ, Option.bind_some, Bool.not_true, cond_false, hf2, Bool.and_self, chk_true, hmp]
      rw [hls]
      rcases pidx (txt l ++ [sRoot]) (by simp [txt_len]; omega) a with ⟨_, i, h⟩ | ⟨hm, h⟩
      · have hd : decide ((i : Int) ≥ 0) = true := decide_eq_true (by omega)
        simp only [h, Option.bind_some, sel, List.getD_cons_zero, asInt_int, hd, cond_true, ok_some]
        exact .inl ⟨7, by decide, rfl⟩
      · simp only [h, Option.bind_some, sel, hfm, chk_true, putP, ok_some]
        exact .inr ⟨a, b, hin hm, rfl⟩
  · have hs2 : (((slLen (some (ws.map V.str)) : Nat) : Int) != 2) = true := by
      simp only [slLen, Option.getD_some, List.length_map, bne_iff_ne, ne_eq]; omega
    rw [hs2]
    simp

/-! ### Keys -/
theorem rblank_ok (t : Str) (h : t.length ≤ 1000) : ∃ r, rblank t = some r ∧ r.length ≤ t.length := by
  have hr : replAll t [95] [32] = some (Lib.replaceAll t [95] [32]) := by
    unfold replAll
    rw [if_neg (by simp; omega)]
  exact ⟨_, by unfold rblank; rw [hr]; rfl, replace_le (by simp) _ _⟩
theorem psigns_ok (t : Str) (h : t.length ≤ 100000) : ∃ a b, psigns t = some (a, b) := by
  unfold psigns sCount
  rw [if_neg (by simp; omega), if_neg (by simp; omega)]
  exact ⟨_, _, rfl⟩
theorem psome_ok (t : Str) : ∃ r, psome t = some r := by
  unfold psome
  cases t == [45] <;> exact ⟨_, rfl⟩
theorem atoiT_ok (tN : TypeId) (s : Str) (h : s.length ≤ 1000000) : ∃ n e, atoiT tN s = some (n, e) ∧ (nilI e = some false ∨ nilI e = some true ∧ -9223372036854775808 ≤ n ∧ n ≤ 9223372036854775807) := by
  unfold atoiT
  rw [if_neg (by omega)]
  split
  · rename_i v hv
    exact ⟨_, _, rfl, .inr ⟨rfl, Lib.atoiAll_bounds hv⟩⟩
  · exact ⟨_, _, rfl, .inl rfl⟩
  · exact ⟨_, _, rfl, .inl rfl⟩
theorem pkey_loop (o : Option (List V)) (n : Int) (ns : List Str) (hl : ns.length ≤ 1000) (hs : ∀ s ∈ ns, s.length ≤ 1000) :
    Ok (loopK pkey_L0 FU (0, [(.v (.sl o)), (.v (.int .i64 n)), (.v (.sl (some (ns.map V.str)))), (.v (.int .i64 ((slLen (some (ns.map V.str)) : Nat) : Int))), (.v (.int .i64 0)), (.v (.str [])), (.v (.str [])), (.v (.str [])), (.v (.str [])), (.v (.str [])), (.v (.str []))]))
      fun r => r = (0, [(.v (.bool false)), (.v (.str [])), (.v (.str [])), (.v (.str [])), (.v (.str [])), (.v (.str [])), (.v (.str []))]) ∨ r = (1, [(.v (.sl o)), (.v (.int .i64 n)), (.v (.str [])), (.v (.str [])), (.v (.str [])), (.v (.str [])), (.v (.str [])), (.v (.str []))]) := by
  have hsl : slLen (some (ns.map V.str)) = ns.length := by simp [slLen]
  rw [hsl]
  refine ok_loop (fun v => ∃ i : Nat, i ≤ ns.length ∧ v = (0, [(.v (.sl o)), (.v (.int .i64 n)), (.v (.sl (some (ns.map V.str)))), (.v (.int .i64 (ns.length : Int))), (.v (.int .i64 (i : Int))), (.v (.str [])), (.v (.str [])), (.v (.str [])), (.v (.str [])), (.v (.str [])), (.v (.str []))]))
    (fun v => match hV v.2 4 with | .int _ k => (ns.length - k).toNat | _ => 0) _ ?_ FU _ ⟨0, Nat.zero_le _, rfl⟩ (by simp only [hV, FU, List.getD_cons_succ, List.getD_cons_zero]; omega)
  rintro v ⟨i, hi, rfl⟩
  simp only [pkey_L0, sel, hV, List.getD_cons_zero, List.getD_cons_succ, asStr_str, asSl_sl, asInt_int, Option.bind_some, Option.getD_some]
  refine Ok.cond (fun h => ?_) (fun h => by simp)
  have hlt : i < ns.length := by have := of_decide_eq_true h; omega
  rw [idxL_map ns i hlt]
  have hb := hs _ (List.getElem_mem hlt)
  simp only [Option.bind_some, asStr_str]
  rw [pname_exact _ (by omega)]
  simp only [Option.bind_some]
  refine Ok.cond (fun h => by simp) (fun h => ?_)
  have hw := w64 (x := (i : Int) + 1) (by omega) (by omega)
  rw [hw]
  simp only [ok_some, hV, List.getD_cons_zero, List.getD_cons_succ]
  exact ⟨⟨i + 1, hlt, rfl⟩, by omega⟩

def sWord : Str := [119, 111, 114, 100]
def sPower : Str := [112, 111, 119, 101, 114]
def sPrefixed : Str := [112, 114, 101, 102, 105, 120, 101, 100]
def sPer : Str := [112, 101, 114]
def sTimes : Str := [116, 105, 109, 101, 115]
noncomputable def kmap : List (V × T2) := [(.str sWord, .a (.v (.int .i64 7))), (.str sPower, .a (.v (.int .i64 6))), (.str sPrefixed, .a (.v (.int .i64 5))), (.str sPer, .a (.v (.int .i64 4))), (.str sTimes, .a (.v (.int .i64 4)))]
theorem kmap_of {β : Type} (K : List (V × T2) → Option β) : ((putE ⟨false, [.s]⟩ (.str [119, 111, 114, 100]) (T2.a (.v (.int .i64 7))) []).bind fun x0 =>
(chk (fits (x0.length + 1))
((putE ⟨false, [.s]⟩ (.str [112, 111, 119, 101, 114]) (T2.a (.v (.int .i64 6))) x0).bind fun x1 =>
(chk (fits (x1.length + 1))
((putE ⟨false, [.s]⟩ (.str [112, 114, 101, 102, 105, 120, 101, 100]) (T2.a (.v (.int .i64 5))) x1).bind fun x2 =>
(chk (fits (x2.length + 1))
((putE ⟨false, [.s]⟩ (.str [112, 101, 114]) (T2.a (.v (.int .i64 4))) x2).bind fun x3 =>
(chk (fits (x3.length + 1))
((putE ⟨false, [.s]⟩ (.str [116, 105, 109, 101, 115]) (T2.a (.v (.int .i64 4))) x3).bind K))))))))) = K kmap := rfl
theorem lenNe (w : Str) (ws : List Str) (n : Nat) (h : ws.length + 1 ≠ n) : (((slLen (encW (some (w :: ws))) : Nat) : Int) != (n : Int)) = true := by
  have hlen : slLen (encW (some (w :: ws))) = ws.length + 1 := by simp [slLen, encW]
  rw [hlen]; simp only [bne_iff_ne, ne_eq]; omega
theorem pkey_sWord (tN : TypeId) (ws : List Str) (hl : ws.length ≤ 1000) (hs : ∀ s ∈ ws, s.length ≤ 1000) : Ok (pkeyT tN (encW (some (sWord :: ws)))) fun _ => True := by
  have i0 : idxL ((encW (some (sWord :: ws))).getD []) 0 = some (.str sWord) := rfl
  have hk : lookE ⟨false, [.s]⟩ (.str sWord) kmap = some (some (.int .i64 7)) := rfl
  unfold pkeyT
  rw [kmap_of, i0]
  simp only [Option.bind_some, asStr_str]
  rw [hk]
  simp only [Option.bind_some, Option.getD_some, asInt_int]
  by_cases h : ws.length + 1 = 7
  · obtain ⟨a, b, c, d, e, f, rfl⟩ : ∃ a b c d e f, ws = [a, b, c, d, e, f] := by
      match ws, h with
      | [a, b, c, d, e, f], _ => exact ⟨a, b, c, d, e, f, rfl⟩
    have hne : (((slLen (encW (some (sWord :: [a, b, c, d, e, f]))) : Nat) : Int) != 7) = false := rfl
    have i1 : idxL ((encW (some (sWord :: [a, b, c, d, e, f]))).getD []) 1 = some (.str a) := rfl
    have i2 : idxL ((encW (some (sWord :: [a, b, c, d, e, f]))).getD []) 2 = some (.str b) := rfl
    have i3 : idxL ((encW (some (sWord :: [a, b, c, d, e, f]))).getD []) 3 = some (.str c) := rfl
    have i4 : idxL ((encW (some (sWord :: [a, b, c, d, e, f]))).getD []) 4 = some (.str d) := rfl
    have i5 : idxL ((encW (some (sWord :: [a, b, c, d, e, f]))).getD []) 5 = some (.str e) := rfl
    have i6 : idxL ((encW (some (sWord :: [a, b, c, d, e, f]))).getD []) 6 = some (.str f) := rfl
    have q0 : ((sWord == [119, 111, 114, 100]) = true) := rfl
    have q1 : ((sWord == [112, 111, 119, 101, 114]) = false) := rfl
    have q2 : ((sWord == [112, 114, 101, 102, 105, 120, 101, 100]) = false) := rfl
    have hcut : cutSl 1 (some 3) (some (IntKind.wrap .i64 (7 - 1))) (encW (some (sWord :: [a, b, c, d, e, f]))) = some (some (([c, d, e] : List Str).map V.str)) := rfl
    have il : idxL ((encW (some (sWord :: [a, b, c, d, e, f]))).getD []) (IntKind.wrap .i64 (7 - 1)) = some (.str f) := rfl
    simp only [hne, cond_false, i1, i2, Option.bind_some, asStr_str, plang_exact, pwidth_exact]
    refine Ok.cond (fun _ => by simp) fun _ => ?_
    refine Ok.cond (fun _ => by simp) fun _ => ?_
    rw [hcut]
    simp only [Option.bind_some]
    refine Ok.bind (pkey_loop _ _ [c, d, e] (by simp) (fun s h => hs s (List.mem_of_mem_drop (i := 2) (List.mem_of_mem_take (i := 3) h)))) ?_
    rintro r (rfl | rfl)
    · simp [sel, hV]
    · obtain ⟨t, ht, htl⟩ := rblank_ok f (hs _ (by simp))
      obtain ⟨p, q, hpq⟩ := psigns_ok t (by have := hs f (by simp); omega)
      simp only [sel, hV, List.getD_cons_zero, List.getD_cons_succ, asStr_str, asSl_sl, asInt_int, asBool_bool, Option.bind_some, Option.getD_some, cond_true, cond_false, i0, i1, i2, i3, i4, i5, i6, il, ht, hpq, q0, q1, q2]
      obtain ⟨r, hr⟩ := psome_ok e
      simp only [hr, Option.bind_some]
      exact Ok.cond (fun _ => by simp) fun _ => by simp
  · have := lenNe sWord ws 7 h
    have h' : (((slLen (encW (some (sWord :: ws))) : Nat) : Int) != 7) = true := this
    rw [h']; simp
theorem pkey_sPower (tN : TypeId) (ws : List Str) (hl : ws.length ≤ 1000) (hs : ∀ s ∈ ws, s.length ≤ 1000) : Ok (pkeyT tN (encW (some (sPower :: ws)))) fun _ => True := by
  have i0 : idxL ((encW (some (sPower :: ws))).getD []) 0 = some (.str sPower) := rfl
  have hk : lookE ⟨false, [.s]⟩ (.str sPower) kmap = some (some (.int .i64 6)) := rfl
  unfold pkeyT
  rw [kmap_of, i0]
  simp only [Option.bind_some, asStr_str]
  rw [hk]
  simp only [Option.bind_some, Option.getD_some, asInt_int]
  by_cases h : ws.length + 1 = 6
  · obtain ⟨a, b, c, d, e, rfl⟩ : ∃ a b c d e, ws = [a, b, c, d, e] := by
      match ws, h with
      | [a, b, c, d, e], _ => exact ⟨a, b, c, d, e, rfl⟩
    have hne : (((slLen (encW (some (sPower :: [a, b, c, d, e]))) : Nat) : Int) != 6) = false := rfl
    have i1 : idxL ((encW (some (sPower :: [a, b, c, d, e]))).getD []) 1 = some (.str a) := rfl
    have i2 : idxL ((encW (some (sPower :: [a, b, c, d, e]))).getD []) 2 = some (.str b) := rfl
    have i3 : idxL ((encW (some (sPower :: [a, b, c, d, e]))).getD []) 3 = some (.str c) := rfl
    have i4 : idxL ((encW (some (sPower :: [a, b, c, d, e]))).getD []) 4 = some (.str d) := rfl
    have i5 : idxL ((encW (some (sPower :: [a, b, c, d, e]))).getD []) 5 = some (.str e) := rfl
    have q0 : ((sPower == [119, 111, 114, 100]) = false) := rfl
    have q1 : ((sPower == [112, 111, 119, 101, 114]) = true) := rfl
    have q2 : ((sPower == [112, 114, 101, 102, 105, 120, 101, 100]) = false) := rfl
    have hcut : cutSl 1 (some 3) (some (IntKind.wrap .i64 (6 - 1))) (encW (some (sPower :: [a, b, c, d, e]))) = some (some (([c, d] : List Str).map V.str)) := rfl
    have il : idxL ((encW (some (sPower :: [a, b, c, d, e]))).getD []) (IntKind.wrap .i64 (6 - 1)) = some (.str e) := rfl
    simp only [hne, cond_false, i1, i2, Option.bind_some, asStr_str, plang_exact, pwidth_exact]
    refine Ok.cond (fun _ => by simp) fun _ => ?_
    refine Ok.cond (fun _ => by simp) fun _ => ?_
    rw [hcut]
    simp only [Option.bind_some]
    refine Ok.bind (pkey_loop _ _ [c, d] (by simp) (fun s h => hs s (List.mem_of_mem_drop (i := 2) (List.mem_of_mem_take (i := 2) h)))) ?_
    rintro r (rfl | rfl)
    · simp [sel, hV]
    · obtain ⟨t, ht, htl⟩ := rblank_ok e (hs _ (by simp))
      obtain ⟨p, q, hpq⟩ := psigns_ok t (by have := hs e (by simp); omega)
      simp only [sel, hV, List.getD_cons_zero, List.getD_cons_succ, asStr_str, asSl_sl, asInt_int, asBool_bool, Option.bind_some, Option.getD_some, cond_true, cond_false, i0, i1, i2, i3, i4, i5, il, ht, hpq, q0, q1, q2]
      obtain ⟨r, hr⟩ := psome_ok d
      obtain ⟨n, er, he, hn⟩ := atoiT_ok tN c (by have := hs c (by simp); omega)
      simp only [hr, he, Option.bind_some]
      refine Ok.cond (fun _ => ?_) fun _ => by simp
      refine Ok.cond (fun _ => ?_) fun _ => by simp
      rcases hn with hn | ⟨hn, n1, n2⟩
      · simp [hn]
      · have hi : itoa n = some (Lib.itoa n) := by unfold itoa; rw [if_pos ⟨n1, n2⟩]
        simp only [hn, hi, Option.bind_some, cond_true]
        exact Ok.cond (fun _ => Ok.cond (fun _ => by simp) fun _ => by simp) fun _ => by simp
  · have := lenNe sPower ws 6 h
    have h' : (((slLen (encW (some (sPower :: ws))) : Nat) : Int) != 6) = true := this
    rw [h']; simp
theorem pkey_sPrefixed (tN : TypeId) (ws : List Str) (hl : ws.length ≤ 1000) (hs : ∀ s ∈ ws, s.length ≤ 1000) : Ok (pkeyT tN (encW (some (sPrefixed :: ws)))) fun _ => True := by
  have i0 : idxL ((encW (some (sPrefixed :: ws))).getD []) 0 = some (.str sPrefixed) := rfl
  have hk : lookE ⟨false, [.s]⟩ (.str sPrefixed) kmap = some (some (.int .i64 5)) := rfl
  unfold pkeyT
  rw [kmap_of, i0]
  simp only [Option.bind_some, asStr_str]
  rw [hk]
  simp only [Option.bind_some, Option.getD_some, asInt_int]
  by_cases h : ws.length + 1 = 5
  · obtain ⟨a, b, c, d, rfl⟩ : ∃ a b c d, ws = [a, b, c, d] := by
      match ws, h with
      | [a, b, c, d], _ => exact ⟨a, b, c, d, rfl⟩
    have hne : (((slLen (encW (some (sPrefixed :: [a, b, c, d]))) : Nat) : Int) != 5) = false := rfl
    have i1 : idxL ((encW (some (sPrefixed :: [a, b, c, d]))).getD []) 1 = some (.str a) := rfl
    have i2 : idxL ((encW (some (sPrefixed :: [a, b, c, d]))).getD []) 2 = some (.str b) := rfl
    have i3 : idxL ((encW (some (sPrefixed :: [a, b, c, d]))).getD []) 3 = some (.str c) := rfl
    have i4 : idxL ((encW (some (sPrefixed :: [a, b, c, d]))).getD []) 4 = some (.str d) := rfl
    have q0 : ((sPrefixed == [119, 111, 114, 100]) = false) := rfl
    have q1 : ((sPrefixed == [112, 111, 119, 101, 114]) = false) := rfl
    have q2 : ((sPrefixed == [112, 114, 101, 102, 105, 120, 101, 100]) = true) := rfl
    have hcut : cutSl 1 (some 3) (some (IntKind.wrap .i64 (5 - 1))) (encW (some (sPrefixed :: [a, b, c, d]))) = some (some (([c] : List Str).map V.str)) := rfl
    have il : idxL ((encW (some (sPrefixed :: [a, b, c, d]))).getD []) (IntKind.wrap .i64 (5 - 1)) = some (.str d) := rfl
    simp only [hne, cond_false, i1, i2, Option.bind_some, asStr_str, plang_exact, pwidth_exact]
    refine Ok.cond (fun _ => by simp) fun _ => ?_
    refine Ok.cond (fun _ => by simp) fun _ => ?_
    rw [hcut]
    simp only [Option.bind_some]
    refine Ok.bind (pkey_loop _ _ [c] (by simp) (fun s h => hs s (List.mem_of_mem_drop (i := 2) (List.mem_of_mem_take (i := 1) h)))) ?_
    rintro r (rfl | rfl)
    · simp [sel, hV]
    · obtain ⟨t, ht, htl⟩ := rblank_ok d (hs _ (by simp))
      obtain ⟨p, q, hpq⟩ := psigns_ok t (by have := hs d (by simp); omega)
      simp only [sel, hV, List.getD_cons_zero, List.getD_cons_succ, asStr_str, asSl_sl, asInt_int, asBool_bool, Option.bind_some, Option.getD_some, cond_true, cond_false, i0, i1, i2, i3, i4, il, ht, hpq, q0, q1, q2]
      exact Ok.cond (fun _ => by simp) fun _ => by simp
  · have := lenNe sPrefixed ws 5 h
    have h' : (((slLen (encW (some (sPrefixed :: ws))) : Nat) : Int) != 5) = true := this
    rw [h']; simp
theorem pkey_sPer (tN : TypeId) (ws : List Str) (hl : ws.length ≤ 1000) (hs : ∀ s ∈ ws, s.length ≤ 1000) : Ok (pkeyT tN (encW (some (sPer :: ws)))) fun _ => True := by
  have i0 : idxL ((encW (some (sPer :: ws))).getD []) 0 = some (.str sPer) := rfl
  have hk : lookE ⟨false, [.s]⟩ (.str sPer) kmap = some (some (.int .i64 4)) := rfl
  unfold pkeyT
  rw [kmap_of, i0]
  simp only [Option.bind_some, asStr_str]
  rw [hk]
  simp only [Option.bind_some, Option.getD_some, asInt_int]
  by_cases h : ws.length + 1 = 4
  · obtain ⟨a, b, c, rfl⟩ : ∃ a b c, ws = [a, b, c] := by
      match ws, h with
      | [a, b, c], _ => exact ⟨a, b, c, rfl⟩
    have hne : (((slLen (encW (some (sPer :: [a, b, c]))) : Nat) : Int) != 4) = false := rfl
    have i1 : idxL ((encW (some (sPer :: [a, b, c]))).getD []) 1 = some (.str a) := rfl
    have i2 : idxL ((encW (some (sPer :: [a, b, c]))).getD []) 2 = some (.str b) := rfl
    have i3 : idxL ((encW (some (sPer :: [a, b, c]))).getD []) 3 = some (.str c) := rfl
    have q0 : ((sPer == [119, 111, 114, 100]) = false) := rfl
    have q1 : ((sPer == [112, 111, 119, 101, 114]) = false) := rfl
    have q2 : ((sPer == [112, 114, 101, 102, 105, 120, 101, 100]) = false) := rfl
    have hcut : cutSl 1 (some 3) (some (IntKind.wrap .i64 (4 - 1))) (encW (some (sPer :: [a, b, c]))) = some (some (([] : List Str).map V.str)) := rfl
    have il : idxL ((encW (some (sPer :: [a, b, c]))).getD []) (IntKind.wrap .i64 (4 - 1)) = some (.str c) := rfl
    simp only [hne, cond_false, i1, i2, Option.bind_some, asStr_str, plang_exact, pwidth_exact]
    refine Ok.cond (fun _ => by simp) fun _ => ?_
    refine Ok.cond (fun _ => by simp) fun _ => ?_
    rw [hcut]
    simp only [Option.bind_some]
    refine Ok.bind (pkey_loop _ _ [] (by simp) (fun s h => hs s (List.mem_of_mem_drop (i := 2) (List.mem_of_mem_take (i := 0) h)))) ?_
    rintro r (rfl | rfl)
    · simp [sel, hV]
    · obtain ⟨t, ht, htl⟩ := rblank_ok c (hs _ (by simp))
      obtain ⟨p, q, hpq⟩ := psigns_ok t (by have := hs c (by simp); omega)
      simp only [sel, hV, List.getD_cons_zero, List.getD_cons_succ, asStr_str, asSl_sl, asInt_int, asBool_bool, Option.bind_some, Option.getD_some, cond_true, cond_false, i0, i1, i2, i3, il, ht, hpq, q0, q1, q2]
      exact Ok.cond (fun _ => by simp) fun _ => by simp
  · have := lenNe sPer ws 4 h
    have h' : (((slLen (encW (some (sPer :: ws))) : Nat) : Int) != 4) = true := this
    rw [h']; simp
theorem pkey_sTimes (tN : TypeId) (ws : List Str) (hl : ws.length ≤ 1000) (hs : ∀ s ∈ ws, s.length ≤ 1000) : Ok (pkeyT tN (encW (some (sTimes :: ws)))) fun _ => True := by
  have i0 : idxL ((encW (some (sTimes :: ws))).getD []) 0 = some (.str sTimes) := rfl
  have hk : lookE ⟨false, [.s]⟩ (.str sTimes) kmap = some (some (.int .i64 4)) := rfl
  unfold pkeyT
  rw [kmap_of, i0]
  simp only [Option.bind_some, asStr_str]
  rw [hk]
  simp only [Option.bind_some, Option.getD_some, asInt_int]
  by_cases h : ws.length + 1 = 4
  · obtain ⟨a, b, c, rfl⟩ : ∃ a b c, ws = [a, b, c] := by
      match ws, h with
      | [a, b, c], _ => exact ⟨a, b, c, rfl⟩
    have hne : (((slLen (encW (some (sTimes :: [a, b, c]))) : Nat) : Int) != 4) = false := rfl
    have i1 : idxL ((encW (some (sTimes :: [a, b, c]))).getD []) 1 = some (.str a) := rfl
    have i2 : idxL ((encW (some (sTimes :: [a, b, c]))).getD []) 2 = some (.str b) := rfl
    have i3 : idxL ((encW (some (sTimes :: [a, b, c]))).getD []) 3 = some (.str c) := rfl
    have q0 : ((sTimes == [119, 111, 114, 100]) = false) := rfl
    have q1 : ((sTimes == [112, 111, 119, 101, 114]) = false) := rfl
    have q2 : ((sTimes == [112, 114, 101, 102, 105, 120, 101, 100]) = false) := rfl
    have hcut : cutSl 1 (some 3) (some (IntKind.wrap .i64 (4 - 1))) (encW (some (sTimes :: [a, b, c]))) = some (some (([] : List Str).map V.str)) := rfl
    have il : idxL ((encW (some (sTimes :: [a, b, c]))).getD []) (IntKind.wrap .i64 (4 - 1)) = some (.str c) := rfl
    simp only [hne, cond_false, i1, i2, Option.bind_some, asStr_str, plang_exact, pwidth_exact]
    refine Ok.cond (fun _ => by simp) fun _ => ?_
    refine Ok.cond (fun _ => by simp) fun _ => ?_
    rw [hcut]
    simp only [Option.bind_some]
    refine Ok.bind (pkey_loop _ _ [] (by simp) (fun s h => hs s (List.mem_of_mem_drop (i := 2) (List.mem_of_mem_take (i := 0) h)))) ?_
    rintro r (rfl | rfl)
    · simp [sel, hV]
    · obtain ⟨t, ht, htl⟩ := rblank_ok c (hs _ (by simp))
      obtain ⟨p, q, hpq⟩ := psigns_ok t (by have := hs c (by simp); omega)
      simp only [sel, hV, List.getD_cons_zero, List.getD_cons_succ, asStr_str, asSl_sl, asInt_int, asBool_bool, Option.bind_some, Option.getD_some, cond_true, cond_false, i0, i1, i2, i3, il, ht, hpq, q0, q1, q2]
      exact Ok.cond (fun _ => by simp) fun _ => by simp
  · have := lenNe sTimes ws 4 h
    have h' : (((slLen (encW (some (sTimes :: ws))) : Nat) : Int) != 4) = true := this
    rw [h']; simp
theorem pkey_ok (tN : TypeId) (w : Str) (ws : List Str) (hw : w = sWord ∨ w = sPower ∨ w = sPrefixed ∨ w = sPer ∨ w = sTimes) (hl : ws.length ≤ 1000) (hs : ∀ s ∈ ws, s.length ≤ 1000) :
    Ok (pkeyT tN (encW (some (w :: ws)))) fun _ => True := by
  rcases hw with rfl | rfl | rfl | rfl | rfl
  · exact pkey_sWord tN ws hl hs
  · exact pkey_sPower tN ws hl hs
  · exact pkey_sPrefixed tN ws hl hs
  · exact pkey_sPer tN ws hl hs
  · exact pkey_sTimes tN ws hl hs
end Go.Ev

/- Patterns: Load answers; Find answers; Fill answers. Of no program. -/
namespace Go.Ev
set_option linter.unusedSimpArgs false
set_option linter.unusedVariables false
set_option maxRecDepth 100000

theorem putM_all {K X : Type} [DecidableEq K] {k : K} {x : X} : ∀ {m : List (K × X)} {e : K × X}, e ∈ putM k x m → e = (k, x) ∨ e ∈ m
  | [], e, h => by simp [putM] at h; exact .inl h
  | (k', y) :: r, e, h => by
    simp only [putM] at h
    split at h
    · rcases List.mem_cons.1 h with h | h
      · exact .inl h
      · exact .inr (List.mem_cons_of_mem _ h)
    · rcases List.mem_cons.1 h with h | h
      · exact .inr (by rw [h]; exact List.mem_cons_self ..)
      · rcases putM_all h with h | h
        · exact .inl h
        · exact .inr (List.mem_cons_of_mem _ h)
theorem getM_in {K X : Type} [DecidableEq K] {k : K} : ∀ {m : List (K × X)} {x : X}, getM k m = some x → (k, x) ∈ m := fun {m x} h => getM_mem k m x h
def goodW (B : Nat) (w : WM) : Prop := ∀ e ∈ w, e.2.length ≤ B
theorem look6 (k : K6) (w : WM) : lookE ⟨true, [.s, .s, .s, .s, .s, .s]⟩ (.agg [(.str k.1), (.str k.2.1), (.str k.2.2.1), (.str k.2.2.2.1), (.str k.2.2.2.2.1), (.str k.2.2.2.2.2)]) (encWM w) = some ((getM k w).map V.str) := lookE_enc key6_eq k w
theorem put6 (k : K6) (x : Str) (w : WM) : putE ⟨true, [.s, .s, .s, .s, .s, .s]⟩ (.agg [(.str k.1), (.str k.2.1), (.str k.2.2.1), (.str k.2.2.2.1), (.str k.2.2.2.2.1), (.str k.2.2.2.2.2)]) (.a (.v (.str x))) (encWM w) = some (encWM (putM k x w)) := putE_enc key6_eq k x w
theorem look6F (k : K6) (w : WM) : lookM ⟨true, [.s, .s, .s, .s, .s, .s]⟩ (.agg [(.str k.1), (.str k.2.1), (.str k.2.2.1), (.str k.2.2.2.1), (.str k.2.2.2.2.1), (.str k.2.2.2.2.2)]) (some (encF key6 V.str w)) = some ((getM k w).map V.str) := lookM_enc key6_eq k w

theorem ptext_ok {B : Nat} (hB : B ≤ 1000) (tN : TypeId) (x0 : Option (List V)) (x1 x2 k : Int) (w0 : Str) (ws : List Str) (hw : w0 = sWord ∨ w0 = sPower ∨ w0 = sPrefixed ∨ w0 = sPer ∨ w0 = sTimes) (w : WM) (P : List (V × T2)) (hg : goodW B w) (hl : w.length ≤ 100000) (hws : ws.length ≤ 999) (hs : ∀ s ∈ w0 :: ws, s.length ≤ B) :
    Ok (ptext tN x0 x1 x2 k (encW (some (w0 :: ws))) (encWM w) P) fun r => (∃ e, e ≠ 0 ∧ r = pinr k e) ∨ ∃ q t, goodW B (putM q t w) ∧ r = pinl x0 x1 x2 (encWM (putM q t w)) P := by
  unfold ptext
  refine Ok.bind (pkey_ok tN w0 ws hw (by omega) fun s h => Nat.le_trans (hs s (List.mem_cons_of_mem _ h)) hB) fun x9 _ => ?_
  refine Ok.cond (fun _ => by simp) fun _ => ?_
  rw [look6 (x9.1, x9.2.1, x9.2.2.1, x9.2.2.2.1, x9.2.2.2.2.1, x9.2.2.2.2.2.1) w]
  simp only [Option.bind_some, look_get, look_some]
  refine Ok.cond (fun _ => by simp) fun _ => ?_
  have hlen : slLen (encW (some (w0 :: ws))) = ws.length + 1 := by simp [slLen, encW]
  have hw1 : IntKind.wrap .i64 (((slLen (encW (some (w0 :: ws))) : Nat) : Int) - 1) = (ws.length : Int) := by
    rw [hlen, w64 (by omega) (by omega)]; omega
  have hidx : idxL ((encW (some (w0 :: ws))).getD []) (ws.length : Int) = some (V.str ((w0 :: ws)[ws.length]'(by simp))) := idxL_map (f := V.str) (w0 :: ws) ws.length (by simp)
  rw [hw1, hidx]
  obtain ⟨t, ht, htl⟩ := rblank_ok ((w0 :: ws)[ws.length]'(by simp)) (Nat.le_trans (hs _ (List.getElem_mem _)) hB)
  have hfm : fits ((encWM w).length + 1) = true := by rw [encM_len]; exact fits_of (by omega)
  simp only [Option.bind_some, asStr_str, ht, hfm, chk_true]
  rw [put6 (x9.1, x9.2.1, x9.2.2.1, x9.2.2.2.1, x9.2.2.2.2.1, x9.2.2.2.2.2.1) t w]
  simp only [Option.bind_some, ok_some]
  refine .inr ⟨_, t, fun e he => ?_, rfl⟩
  rcases putM_all he with rfl | he
  · exact Nat.le_trans htl (hs _ (List.getElem_mem _))
  · exact hg e he

/-! ### Load -/
abbrev pst (o : Option (List Rw)) (i : Nat) (w : WM) (p : PM) : Vs := (0, [.v (.sl (encRs o)), .v (.int .i64 ((o.getD []).length : Int)), .v (.int .i64 (i : Int)), .m (encWM w), .m (encP p)])
structure PInv (B i : Nat) (w : WM) (p : PM) : Prop where
  good : goodW B w
  acyc : acycP p
  wl : w.length ≤ i
  pl : p.length ≤ i
theorem pload_step {B : Nat} (hB : B ≤ 1000) (tN : TypeId) (o : Option (List Rw)) (i : Nat) (w : WM) (p : PM) (hi : i < (o.getD []).length) (hb : RwsB 1000 999 B (o.getD [])) (h : PInv B i w p) :
    Ok (ploadT_L0 tN (pst o i w p)) fun r => (∃ k e, e ≠ 0 ∧ r = pinr k e) ∨ ∃ w' p', PInv B (i + 1) w' p' ∧ r = .inl (pst o (i + 1) w' p') := by
  have hlen := hb.1
  have hd : decide ((i : Int) < ((o.getD []).length : Int)) = true := decide_eq_true (by omega)
  have hidx : idxL ((encRs o).getD []) (i : Int) = some (encR ((o.getD [])[i])) := by
    have : (encRs o).getD [] = (o.getD []).map encR := by cases o <;> rfl
    rw [this]; exact idxL_map _ i hi
  have hrb := hb.2 _ (List.getElem_mem hi)
  generalize (o.getD [])[i] = r at hidx hrb
  obtain ⟨k, ow⟩ := r
  have hwi := w64 (x := (i : Int) + 1) (by omega) (by omega)
  have up : PInv B (i + 1) w p := ⟨h.good, h.acyc, by have := h.wl; omega, by have := h.pl; omega⟩
  have skip : Ok (some (Sum.inl (β := Vs) ((0, [.v (.sl (encRs o)), .v (.int .i64 ((o.getD []).length : Int)), .v (.int .i64 (IntKind.wrap .i64 ((i : Int) + 1))), .m (encWM w), .m (encP p)]) : Vs))) fun r => (∃ k e, e ≠ 0 ∧ r = pinr k e) ∨ ∃ w' p', PInv B (i + 1) w' p' ∧ r = .inl (pst o (i + 1) w' p') := by
    rw [hwi]
    exact (ok_some _ _).2 (.inr ⟨w, p, up, rfl⟩)
  have text : ∀ w0 ws, ow = some (w0 :: ws) → (w0 = sWord ∨ w0 = sPower ∨ w0 = sPrefixed ∨ w0 = sPer ∨ w0 = sTimes) → Ok (ptext tN (encRs o) ((o.getD []).length : Int) (i : Int) k (encW ow) (encWM w) (encP p)) fun r => (∃ k e, e ≠ 0 ∧ r = pinr k e) ∨ ∃ w' p', PInv B (i + 1) w' p' ∧ r = .inl (pst o (i + 1) w' p') := by
    rintro w0 ws rfl hw
    have h1 : (w0 :: ws).length ≤ 999 := hrb.1
    simp only [List.length_cons] at h1
    refine (ptext_ok hB tN (encRs o) _ (i : Int) k w0 ws hw w (encP p) h.good (by have := h.wl; omega) (by omega) hrb.2).mono fun r hr => ?_
    rcases hr with ⟨e, he, rfl⟩ | ⟨q, t, hg, rfl⟩
    · exact .inl ⟨k, e, he, rfl⟩
    · refine .inr ⟨putM q t w, p, ⟨hg, h.acyc, by have := h.wl; have := putM_len q t w; omega, up.pl⟩, ?_⟩
      simp only [pinl, hwi]; rfl
  have above : ∀ w0 ws, ow = some (w0 :: ws) → Ok (pabove (encRs o) ((o.getD []).length : Int) (i : Int) k (encW ow) (encWM w) (encP p)) fun r => (∃ k e, e ≠ 0 ∧ r = pinr k e) ∨ ∃ w' p', PInv B (i + 1) w' p' ∧ r = .inl (pst o (i + 1) w' p') := by
    rintro w0 ws rfl
    have h1 : (w0 :: ws).length ≤ 999 := hrb.1
    simp only [List.length_cons] at h1
    refine (pabove_ok (encRs o) _ (i : Int) k w0 ws (encWM w) p h.acyc (by have := h.pl; omega) (by omega)).mono fun r hr => ?_
    rcases hr with ⟨e, he, rfl⟩ | ⟨a, b, ha, rfl⟩
    · exact .inl ⟨k, e, he, rfl⟩
    · refine .inr ⟨w, putM a b p, ⟨h.good, ha, up.wl, by have := h.pl; have := putM_len a b p; omega⟩, ?_⟩
      simp only [pinl, hwi]; rfl
  simp only [ploadT_L0, sel, hV, hM, List.getD_cons_zero, List.getD_cons_succ, asSl_sl, asInt_int, Option.bind_some, hd, cond_true, hidx, asAgg_encR]
  match ow with
  | none => exact skip
  | some [] => exact skip
  | some (w0 :: ws) =>
    have hs : (((slLen (encW (some (w0 :: ws))) : Nat) : Int) == 0) = false := by
      have hlen : slLen (encW (some (w0 :: ws))) = ws.length + 1 := by simp [slLen, encW]
      rw [hlen, beq_eq_false_iff_ne]; omega
    have i0 : idxL ((encW (some (w0 :: ws))).getD []) 0 = some (.str w0) := rfl
    simp only [hs, cond_false, i0, Option.bind_some, asStr_str]
    have A := above w0 ws rfl
    have T := text w0 ws rfl
    clear above text
    by_cases h1 : w0 = sWord
    · have e : (w0 == [119, 111, 114, 100]) = true := beq_iff_eq.2 h1
      simp only [e, cond_true]
      exact T (.inl h1)
    have e1 : (w0 == [119, 111, 114, 100]) = false := beq_eq_false_iff_ne.2 h1
    by_cases h2 : w0 = sPower
    · have e : (w0 == [112, 111, 119, 101, 114]) = true := beq_iff_eq.2 h2
      simp only [e1, e, cond_true, cond_false]
      exact T (.inr (.inl h2))
    have e2 : (w0 == [112, 111, 119, 101, 114]) = false := beq_eq_false_iff_ne.2 h2
    by_cases h3 : w0 = sPrefixed
    · have e : (w0 == [112, 114, 101, 102, 105, 120, 101, 100]) = true := beq_iff_eq.2 h3
      simp only [e1, e2, e, cond_true, cond_false]
      exact T (.inr (.inr (.inl h3)))
    have e3 : (w0 == [112, 114, 101, 102, 105, 120, 101, 100]) = false := beq_eq_false_iff_ne.2 h3
    by_cases h4 : w0 = sPer
    · have e : (w0 == [112, 101, 114]) = true := beq_iff_eq.2 h4
      simp only [e1, e2, e3, e, cond_true, cond_false]
      exact T (.inr (.inr (.inr (.inl h4))))
    have e4 : (w0 == [112, 101, 114]) = false := beq_eq_false_iff_ne.2 h4
    by_cases h5 : w0 = sTimes
    · have e : (w0 == [116, 105, 109, 101, 115]) = true := beq_iff_eq.2 h5
      simp only [e1, e2, e3, e4, e, cond_true, cond_false]
      exact T (.inr (.inr (.inr (.inr h5))))
    have e5 : (w0 == [116, 105, 109, 101, 115]) = false := beq_eq_false_iff_ne.2 h5
    simp only [e1, e2, e3, e4, e5, cond_false]
    cases hq : (w0 == [112, 97, 114, 101, 110, 116]) with
    | true => simp only [cond_true]; exact A
    | false => simp only [cond_false]; exact skip

/-- Words that were loaded. -/
structure WOk (B : Nat) (w : WM) (p : PM) : Prop where
  good : goodW B w
  acyc : acycP p
  wl : w.length ≤ 1000
  pl : p.length ≤ 1000
theorem ploadT_ok {B : Nat} (hB : B ≤ 1000) (tN : TypeId) (o : Option (List Rw)) (hb : RwsB 1000 999 B (o.getD [])) : ∃ r, ploadT tN (encRs o) = some r ∧ ((∃ w p, WOk B w p ∧ r = (Wds w p, 0, 0)) ∨ ∃ k e, e ≠ 0 ∧ r = (none, k, e)) := by
  have hlen := hb.1
  have : Ok (ploadT tN (encRs o)) fun r => (∃ w p, WOk B w p ∧ r = (Wds w p, 0, 0)) ∨ ∃ k e, e ≠ 0 ∧ r = (none, k, e) := by
    unfold ploadT
    rw [slLen_encRs]
    refine Ok.bind (Q := fun r => (∃ k e, e ≠ 0 ∧ r = (0, [.v (.int .i64 k), .v (.int .i64 e)])) ∨ ∃ w p, WOk B w p ∧ r = (1, [.m (encWM w), .m (encP p)])) ?_ ?_
    · refine ok_loop (fun v => ∃ (i : Nat) (w : WM) (p : PM), i ≤ (o.getD []).length ∧ PInv B i w p ∧ v = pst o i w p) (fun v => match hV v.2 2 with | .int _ k => ((o.getD []).length - k).toNat | _ => 0) _ ?_ FU _ ⟨0, [], [], Nat.zero_le _, ⟨fun e h => (by cases h), acycP_nil, Nat.le_refl _, Nat.le_refl _⟩, rfl⟩ (by simp only [hV, FU, List.getD_cons_succ, List.getD_cons_zero]; omega)
      rintro v ⟨i, w, p, hi, hI, rfl⟩
      by_cases hlt : i < (o.getD []).length
      · refine (pload_step hB tN o i w p hlt hb hI).mono ?_
        rintro r (⟨k, e, he, rfl⟩ | ⟨w', p', hI', rfl⟩)
        · exact .inl ⟨k, e, he, rfl⟩
        · refine ⟨⟨i + 1, w', p', hlt, hI', rfl⟩, ?_⟩
          simp only [hV, List.getD_cons_succ, List.getD_cons_zero]; omega
      · have hd : decide ((i : Int) < ((o.getD []).length : Int)) = false := decide_eq_false (by omega)
        simp only [ploadT_L0, sel, hV, hM, List.getD_cons_zero, List.getD_cons_succ, asSl_sl, asInt_int, Option.bind_some, hd, cond_false, ok_some]
        exact .inr ⟨w, p, ⟨hI.good, hI.acyc, by have := hI.wl; omega, by have := hI.pl; omega⟩, rfl⟩
    · rintro r (⟨k, e, he, rfl⟩ | ⟨w, p, hw, rfl⟩)
      · simp only [sel, hV, List.getD_cons_zero, List.getD_cons_succ, asInt_int, Option.bind_some, ok_some]
        exact .inr ⟨k, e, he, rfl⟩
      · have h1 : frzE (encWM w) = some (encF key6 V.str w) := frzE_enc w
        have h2 : frzE (encP p) = some (encF V.str V.str p) := frzE_enc p
        simp only [sel, hM, List.getD_cons_zero, List.getD_cons_succ, h1, h2, Option.bind_some, ok_some]
        exact .inl ⟨w, p, hw, rfl⟩
  exact this
end Go.Ev

/- Patterns: Find and Fill answer. Of no program. -/
namespace Go.Ev
set_option linter.unusedSimpArgs false
set_option linter.unusedVariables false
set_option maxRecDepth 100000

/-! ### Find -/
theorem getD_some {α : Type} (a d : α) : (some a).getD d = a := rfl
theorem pfind3 {B : Nat} {w : WM} (p : PM) (hg : goodW B w) (cs : List Str) (hcs : cs.length ≤ 1000) (x51 x52 x53 x65 x66 x67 x68 x69 x70 : Str) (x54 x57 : Option (List V)) (x55 x56 x58 x59 x60 x61 : Int) (acc : List V) :
    Ok (loopK pfind_L3 FU (0, [(.v (.pt (Wds w p))), (.v (.str x51)), (.v (.str x52)), (.v (.str x53)), (.v (.sl x54)), (.v (.int .i64 x55)), (.v (.int .i64 x56)), (.v (.sl x57)), (.v (.int .i64 x58)), (.v (.int .i64 x59)), (.v (.int .i64 x60)), (.v (.int .i64 x61)), (.v (.sl (some (cs.map V.str)))), (.v (.int .i64 (cs.length : Int))), (.v (.int .i64 0)), (.v (.str x65)), (.v (.str x66)), (.v (.str x67)), (.v (.str x68)), (.v (.str x69)), (.v (.str x70)), (.l acc)]))
      fun r => (∃ t, t.length ≤ B ∧ r = (0, [(.v (.str t)), (.v (.bool true))])) ∨ r = (1, [(.v (.pt (Wds w p))), (.v (.str x51)), (.v (.str x52)), (.v (.sl x54)), (.v (.int .i64 x55)), (.v (.int .i64 x56)), (.v (.sl x57)), (.v (.int .i64 x58)), (.v (.int .i64 x59)), (.v (.int .i64 x60)), (.v (.int .i64 x61)), (.v (.str x65)), (.v (.str x66)), (.v (.str x67)), (.v (.str x68)), (.v (.str x69)), (.v (.str x70)), (.l acc)]) := by
  refine ok_loop (fun v => ∃ i : Nat, i ≤ cs.length ∧ v = (0, [(.v (.pt (Wds w p))), (.v (.str x51)), (.v (.str x52)), (.v (.str x53)), (.v (.sl x54)), (.v (.int .i64 x55)), (.v (.int .i64 x56)), (.v (.sl x57)), (.v (.int .i64 x58)), (.v (.int .i64 x59)), (.v (.int .i64 x60)), (.v (.int .i64 x61)), (.v (.sl (some (cs.map V.str)))), (.v (.int .i64 (cs.length : Int))), (.v (.int .i64 (i : Int))), (.v (.str x65)), (.v (.str x66)), (.v (.str x67)), (.v (.str x68)), (.v (.str x69)), (.v (.str x70)), (.l acc)]))
    (fun v => match hV v.2 14 with | .int _ k => (cs.length - k).toNat | _ => 0) _ ?_ FU _ ⟨0, Nat.zero_le _, rfl⟩ (by simp only [hV, FU, List.getD_cons_succ, List.getD_cons_zero]; omega)
  rintro v ⟨i, hi, rfl⟩
  by_cases hlt : i < cs.length
  · have hd : decide ((i : Int) < (cs.length : Int)) = true := decide_eq_true (by omega)
    have hidx := idxL_map (f := V.str) cs i hlt
    have hw := w64 (x := (i : Int) + 1) (by omega) (by omega)
    simp only [pfind_L3, sel, hV, hL, List.getD_cons_zero, List.getD_cons_succ, asStr_str, asSl_sl, asInt_int, asPt_pt, asPtr_pt, asMp_mp, List.length_cons, List.length_nil, if_true, getD_some, Option.bind_some, hd, cond_true, hidx]
    rw [look6F (x65, x51, x52, x68, cs[i], x53) w]
    simp only [Option.bind_some, look_get, look_some, hw]
    cases hgm : getM (x65, x51, x52, x68, cs[i], x53) w with
    | none =>
      simp only [Option.isSome_none, cond_false, ok_some, hV, List.getD_cons_zero, List.getD_cons_succ]
      exact ⟨⟨i + 1, hlt, rfl⟩, by omega⟩
    | some t =>
      simp only [Option.isSome_some, cond_true, ok_some, Option.getD_some]
      exact .inl ⟨t, hg _ (getM_in hgm), rfl⟩
  · have hd : decide ((i : Int) < (cs.length : Int)) = false := decide_eq_false (by omega)
    simp only [pfind_L3, sel, hV, hL, List.getD_cons_zero, List.getD_cons_succ, asStr_str, asSl_sl, asInt_int, asPt_pt, Option.bind_some, hd, cond_false, ok_some]
    exact .inr trivial
theorem pcats_ok (a0 a1 a2 a3 a4 a5 : Str) : ∃ cs : List Str, pcats a0 a1 a2 a3 a4 a5 = some (some (cs.map V.str)) ∧ cs.length ≤ 1000 := by
  unfold pcats
  cases a0 == [119, 111, 114, 100] with
  | true => exact ⟨[a4, [111, 116, 104, 101, 114]], rfl, by simp⟩
  | false =>
    cases a0 == [112, 111, 119, 101, 114] with
    | true => exact ⟨[a4, []], rfl, by simp⟩
    | false => exact ⟨[a4], rfl, by simp⟩
theorem pwidths_ok (a0 : Str) : ∃ cs : List Str, pwidths a0 = some (some (cs.map V.str)) ∧ cs.length ≤ 1000 := by
  unfold pwidths
  cases a0 == [110, 97, 114, 114, 111, 119] with
  | true => exact ⟨[[110, 97, 114, 114, 111, 119], [115, 104, 111, 114, 116], [108, 111, 110, 103]], rfl, by simp⟩
  | false =>
    cases a0 == [115, 104, 111, 114, 116] with
    | true => exact ⟨[[115, 104, 111, 114, 116], [108, 111, 110, 103]], rfl, by simp⟩
    | false => exact ⟨[[108, 111, 110, 103]], rfl, by simp⟩
theorem slLen_strs (cs : List Str) : slLen (some (cs.map V.str)) = cs.length := by simp [slLen]
theorem pfind2 {B : Nat} {w : WM} (p : PM) (hg : goodW B w) (c1 c2 x31 x32 x41 x42 x43 x44 x45 x46 : Str) (x33 x36 : Option (List V)) (x34 x35 x37 x38 : Int) :
    Ok (loopK pfind_L2 FU (0, [(.v (.pt (Wds w p))), (.v (.str x31)), (.v (.str x32)), (.v (.sl x33)), (.v (.int .i64 x34)), (.v (.int .i64 x35)), (.v (.sl x36)), (.v (.int .i64 x37)), (.v (.int .i64 x38)), (.v (.int .i64 2)), (.v (.int .i64 0)), (.v (.str x41)), (.v (.str x42)), (.v (.str x43)), (.v (.str x44)), (.v (.str x45)), (.v (.str x46)), (.l [(.str c1), (.str c2)])]))
      fun r => (∃ t, t.length ≤ B ∧ r = (0, [(.v (.str t)), (.v (.bool true))])) ∨ r = (1, [(.v (.pt (Wds w p))), (.v (.str x31)), (.v (.sl x33)), (.v (.int .i64 x34)), (.v (.int .i64 x35)), (.v (.sl x36)), (.v (.int .i64 x37)), (.v (.int .i64 x38)), (.v (.str x41)), (.v (.str x42)), (.v (.str x43)), (.v (.str x44)), (.v (.str x45)), (.v (.str x46))]) := by
  refine ok_loop (fun v => ∃ i : Nat, i ≤ 2 ∧ v = (0, [(.v (.pt (Wds w p))), (.v (.str x31)), (.v (.str x32)), (.v (.sl x33)), (.v (.int .i64 x34)), (.v (.int .i64 x35)), (.v (.sl x36)), (.v (.int .i64 x37)), (.v (.int .i64 x38)), (.v (.int .i64 2)), (.v (.int .i64 (i : Int))), (.v (.str x41)), (.v (.str x42)), (.v (.str x43)), (.v (.str x44)), (.v (.str x45)), (.v (.str x46)), (.l [(.str c1), (.str c2)])]))
    (fun v => match hV v.2 10 with | .int _ k => (2 - k).toNat | _ => 0) _ ?_ FU _ ⟨0, Nat.zero_le _, rfl⟩ (by simp only [hV, FU, List.getD_cons_succ, List.getD_cons_zero]; omega)
  rintro v ⟨i, hi, rfl⟩
  obtain ⟨cs, hcs, hcl⟩ := pcats_ok x41 x42 x43 x44 x45 x46
  by_cases hlt : i < 2
  · have hd : decide ((i : Int) < 2) = true := decide_eq_true (by omega)
    have hidx : idxL ([V.str c1, V.str c2]) (i : Int) = some (V.str ([c1, c2][i])) := idxL_map (f := V.str) [c1, c2] i hlt
    have hw := w64 (x := (i : Int) + 1) (by omega) (by omega)
    simp only [pfind_L2, sel, hV, hL, List.getD_cons_zero, List.getD_cons_succ, asStr_str, asSl_sl, asInt_int, asPt_pt, Option.bind_some, hd, cond_true, hidx, hcs]
    rw [slLen_strs]
    refine Ok.bind (pfind3 p hg cs hcl _ _ _ _ _ _ _ _ _ _ _ _ _ _ _ _ _ _) ?_
    rintro r (⟨t, ht, rfl⟩ | rfl)
    · simp only [sel, hV, List.getD_cons_zero, List.getD_cons_succ, asStr_str, asBool_bool, Option.bind_some, ok_some]
      exact .inl ⟨t, ht, rfl⟩
    · simp only [sel, hV, hL, List.getD_cons_zero, List.getD_cons_succ, asStr_str, asSl_sl, asInt_int, asPt_pt, Option.bind_some, ok_some, hw]
      exact ⟨⟨i + 1, hlt, rfl⟩, by omega⟩
  · have hd : decide ((i : Int) < 2) = false := decide_eq_false (by omega)
    simp only [pfind_L2, sel, hV, hL, List.getD_cons_zero, List.getD_cons_succ, asStr_str, asSl_sl, asInt_int, asPt_pt, Option.bind_some, hd, cond_false, ok_some]
    exact .inr trivial
theorem pfind1 {B : Nat} {w : WM} (p : PM) (hg : goodW B w) (cs : List Str) (hcs : cs.length ≤ 1000) (x15 x22 x23 x24 x25 x26 x27 : Str) (x16 : Option (List V)) (x17 x18 : Int) :
    Ok (loopK pfind_L1 FU (0, [(.v (.pt (Wds w p))), (.v (.str x15)), (.v (.sl x16)), (.v (.int .i64 x17)), (.v (.int .i64 x18)), (.v (.sl (some (cs.map V.str)))), (.v (.int .i64 (cs.length : Int))), (.v (.int .i64 0)), (.v (.str x22)), (.v (.str x23)), (.v (.str x24)), (.v (.str x25)), (.v (.str x26)), (.v (.str x27))]))
      fun r => (∃ t, t.length ≤ B ∧ r = (0, [(.v (.str t)), (.v (.bool true))])) ∨ r = (1, [(.v (.pt (Wds w p))), (.v (.sl x16)), (.v (.int .i64 x17)), (.v (.int .i64 x18)), (.v (.str x22)), (.v (.str x23)), (.v (.str x24)), (.v (.str x25)), (.v (.str x26)), (.v (.str x27))]) := by
  refine ok_loop (fun v => ∃ i : Nat, i ≤ cs.length ∧ v = (0, [(.v (.pt (Wds w p))), (.v (.str x15)), (.v (.sl x16)), (.v (.int .i64 x17)), (.v (.int .i64 x18)), (.v (.sl (some (cs.map V.str)))), (.v (.int .i64 (cs.length : Int))), (.v (.int .i64 (i : Int))), (.v (.str x22)), (.v (.str x23)), (.v (.str x24)), (.v (.str x25)), (.v (.str x26)), (.v (.str x27))]))
    (fun v => match hV v.2 7 with | .int _ k => (cs.length - k).toNat | _ => 0) _ ?_ FU _ ⟨0, Nat.zero_le _, rfl⟩ (by simp only [hV, FU, List.getD_cons_succ, List.getD_cons_zero]; omega)
  rintro v ⟨i, hi, rfl⟩
  by_cases hlt : i < cs.length
  · have hd : decide ((i : Int) < (cs.length : Int)) = true := decide_eq_true (by omega)
    have hidx := idxL_map (f := V.str) cs i hlt
    have hw := w64 (x := (i : Int) + 1) (by omega) (by omega)
    simp only [pfind_L1, sel, hV, hL, List.getD_cons_zero, List.getD_cons_succ, asStr_str, asSl_sl, asInt_int, asPt_pt, getD_some, Option.bind_some, hd, cond_true, hidx]
    refine Ok.bind (pfind2 p hg x27 [] _ _ _ _ _ _ _ _ _ _ _ _ _ _) ?_
    rintro r (⟨t, ht, rfl⟩ | rfl)
    · simp only [sel, hV, List.getD_cons_zero, List.getD_cons_succ, asStr_str, asBool_bool, Option.bind_some, ok_some]
      exact .inl ⟨t, ht, rfl⟩
    · simp only [sel, hV, hL, List.getD_cons_zero, List.getD_cons_succ, asStr_str, asSl_sl, asInt_int, asPt_pt, Option.bind_some, ok_some, hw]
      exact ⟨⟨i + 1, hlt, rfl⟩, by omega⟩
  · have hd : decide ((i : Int) < (cs.length : Int)) = false := decide_eq_false (by omega)
    simp only [pfind_L1, sel, hV, hL, List.getD_cons_zero, List.getD_cons_succ, asStr_str, asSl_sl, asInt_int, asPt_pt, Option.bind_some, hd, cond_false, ok_some]
    exact .inr trivial
/-- Find answers; a text that it finds is no longer than that. -/
theorem pfind_ok {B : Nat} {w : WM} {p : PM} (h : WOk B w p) (a1 a2 a3 a4 a5 a6 : Str) : ∃ t b, pfind (Wds w p) a1 a2 a3 a4 a5 a6 = some (t, b) ∧ t.length ≤ B := by
  have : Ok (pfind (Wds w p) a1 a2 a3 a4 a5 a6) fun r => r.1.length ≤ B := by
    obtain ⟨l, hl⟩ := h.acyc (some a2)
    have hlen := acycP_len hl
    have hpl := h.pl
    unfold pfind
    rw [pchain_exact w p a2 hl (by omega)]
    simp only [Option.bind_some]
    have hcl : (txt l ++ [sRoot]).length ≤ 10000 := by simp [txt_len]; omega
    generalize txt l ++ [sRoot] = ls at hcl
    rw [slLen_strs]
    refine Ok.bind (Q := fun r => (∃ t, t.length ≤ B ∧ r = (0, [(.v (.str t)), (.v (.bool true))])) ∨ r = (1, [])) ?_ ?_
    · refine ok_loop (fun v => ∃ i : Nat, i ≤ ls.length ∧ v = (0, [(.v (.pt (Wds w p))), (.v (.sl (some (ls.map V.str)))), (.v (.int .i64 (ls.length : Int))), (.v (.int .i64 (i : Int))), (.v (.str a1)), (.v (.str a2)), (.v (.str a3)), (.v (.str a4)), (.v (.str a5)), (.v (.str a6))]))
        (fun v => match hV v.2 3 with | .int _ k => (ls.length - k).toNat | _ => 0) _ ?_ FU _ ⟨0, Nat.zero_le _, rfl⟩ (by simp only [hV, FU, List.getD_cons_succ, List.getD_cons_zero]; omega)
      rintro v ⟨i, hi, rfl⟩
      obtain ⟨cs, hcs, hcl⟩ := pwidths_ok a3
      by_cases hlt : i < ls.length
      · have hd : decide ((i : Int) < (ls.length : Int)) = true := decide_eq_true (by omega)
        have hidx := idxL_map (f := V.str) ls i hlt
        have hw := w64 (x := (i : Int) + 1) (by omega) (by omega)
        simp only [pfind_L0, sel, hV, hL, List.getD_cons_zero, List.getD_cons_succ, asStr_str, asSl_sl, asInt_int, asPt_pt, getD_some, Option.bind_some, hd, cond_true, hidx, hcs]
        rw [slLen_strs]
        refine Ok.bind (pfind1 p h.good cs hcl _ _ _ _ _ _ _ _ _ _) ?_
        rintro r (⟨t, ht, rfl⟩ | rfl)
        · simp only [sel, hV, List.getD_cons_zero, List.getD_cons_succ, asStr_str, asBool_bool, Option.bind_some, ok_some]
          exact .inl ⟨t, ht, rfl⟩
        · simp only [sel, hV, hL, List.getD_cons_zero, List.getD_cons_succ, asStr_str, asSl_sl, asInt_int, asPt_pt, Option.bind_some, ok_some, hw]
          exact ⟨⟨i + 1, hlt, rfl⟩, by omega⟩
      · have hd : decide ((i : Int) < (ls.length : Int)) = false := decide_eq_false (by omega)
        simp only [pfind_L0, sel, hV, hL, List.getD_cons_zero, List.getD_cons_succ, asStr_str, asSl_sl, asInt_int, asPt_pt, Option.bind_some, hd, cond_false, ok_some]
        exact .inr trivial
    · rintro r (⟨t, ht, rfl⟩ | rfl)
      · simpa only [sel, hV, List.getD_cons_zero, List.getD_cons_succ, asStr_str, asBool_bool, Option.bind_some, ok_some] using ht
      · simp [sel]
  obtain ⟨⟨t, b⟩, h1, h2⟩ := this
  exact ⟨t, b, h1, h2⟩

/-! ### Fill -/
theorem cutL_mid {α : Type} (xs : List α) (l h : Nat) (h1 : l ≤ h) (h2 : h ≤ xs.length) : cutL (some (l : Int)) (some (h : Int)) xs = some ((xs.drop l).take (h - l)) := by
  unfold cutL bI
  simp only [Option.getD_some]
  rw [if_pos (by omega), if_pos (by omega)]
  simp only [Int.toNat_natCast]
theorem fillD_ok (s : Str) (xs : List Str) (i : Nat) (A : List UInt8 → Option (Vs ⊕ Vs)) (B : UInt8 → Option (Vs ⊕ Vs)) (E : Option (Vs ⊕ Vs)) (Q : Vs ⊕ Vs → Prop) (hs : s.length ≤ 100000000) (hx : xs.length ≤ 1000)
    (hA : ∀ x ∈ xs, i + 3 ≤ s.length → Ok (A x) Q) (hB : ∀ c, i < s.length → Ok (B c) Q) (hE : ¬ i < s.length → Ok E Q) : Ok (fillD s (some (xs.map V.str)) (i : Int) A B E) Q := by
  unfold fillD
  refine Ok.cond (fun h => ?_) fun h => hE fun h' => by have := of_decide_eq_false h; omega
  have hlt : i < s.length := by have := of_decide_eq_true h; omega
  have hw := w64 (x := (i : Int) + 3) (by omega) (by omega)
  have hb : Ok ((idxL s (i : Int)).bind fun x => B x) Q := by
    rw [idx_lt s i hlt]
    exact hB _ hlt
  rw [hw]
  have hcut : cutL (some (i : Int)) (some (if ((s.length : Nat) : Int) < (i : Int) + 3 then ((s.length : Nat) : Int) else (i : Int) + 3)) s = some ((s.drop i).take 3) := by
    by_cases h3 : i + 3 ≤ s.length
    · rw [if_neg (by omega)]
      have := cutL_mid s i (i + 3) (by omega) h3
      rw [Int.natCast_add] at this
      rw [show (i : Int) + 3 = (i : Int) + ((3 : Nat) : Int) from rfl, this, Nat.add_sub_cancel_left]
    · rw [if_pos (by omega), cutL_mid s i s.length (by omega) (by omega), List.take_of_length_le (by rw [List.length_drop]; omega), List.take_of_length_le (by rw [List.length_drop]; omega)]
  rw [hcut]
  simp only [Option.bind_some]
  refine Ok.cond (fun h3 => ?_) fun _ => hb
  have h3' : ((s.drop i).take 3).length = 3 := by have := beq_iff_eq.1 h3; omega
  have hi3 : i + 3 ≤ s.length := by
    rw [List.length_take, List.length_drop] at h3'; omega
  obtain ⟨a, b, c, habc⟩ : ∃ a b c, (s.drop i).take 3 = [a, b, c] := by
    match (s.drop i).take 3, h3' with
    | [a, b, c], _ => exact ⟨a, b, c, rfl⟩
  rw [habc]
  have j0 : idxL [a, b, c] 0 = some a := rfl
  have j1 : idxL [a, b, c] 1 = some b := rfl
  have j2 : idxL [a, b, c] 2 = some c := rfl
  simp only [j0, j1, j2, Option.bind_some]
  refine Ok.cond (fun _ => ?_) fun _ => hb
  refine Ok.cond (fun _ => ?_) fun _ => hb
  refine Ok.cond (fun h4 => ?_) fun _ => hb
  refine Ok.cond (fun h5 => ?_) fun _ => hb
  refine Ok.cond (fun h6 => ?_) fun _ => hb
  have h4 := of_decide_eq_true h4
  have h5 := of_decide_eq_true h5
  have h6 := of_decide_eq_true h6
  have hu : IntKind.wrap .u8 (((b.toNat : Nat) : Int) - 48) = ((b.toNat - 48 : Nat) : Int) := by
    have : IntKind.wrap .u8 (((b.toNat : Nat) : Int) - 48) = (((b.toNat : Nat) : Int) - 48) % 256 := by rfl
    rw [this]; omega
  rw [hu, w64 (by omega) (by omega), slLen_strs] at h6
  rw [hu]
  have hidx : idxL ((some (xs.map V.str)).getD []) ((b.toNat - 48 : Nat) : Int) = some (V.str (xs[b.toNat - 48]'(by omega))) := idxL_map (f := V.str) xs _ (by omega)
  rw [hidx]
  simp only [Option.bind_some, asStr_str]
  exact hA _ (List.getElem_mem _) hi3
theorem mul_step {i M : Nat} : i * M + M = (i + 1) * M := by rw [Nat.add_mul, Nat.one_mul]
/-- Fill answers; what it answers is no longer than its text's bytes, each put in place of by the longest argument. -/
theorem pfill_ok (s : Str) (xs : List Str) (M : Nat) (hs : s.length ≤ 1000000) (hM : 1 ≤ M) (hx : ∀ x ∈ xs, x.length ≤ M) (hxl : xs.length ≤ 1000) (hb : s.length * M ≤ 1000000000) : ∃ r, pfill s (some (xs.map V.str)) = some r ∧ r.length ≤ s.length * M := by
  have : Ok (pfill s (some (xs.map V.str))) fun r => r.length ≤ s.length * M := by
    unfold pfill
    refine Ok.bind (Q := fun r => r = (0, []) ∨ r = (1, []) ∨ ∃ t : Str, t ≠ [] ∧ t.length ≤ s.length * M ∧ r = (2, [.l (strV t)])) ?_ ?_
    · refine ok_loop (fun v => ∃ i : Nat, i ≤ s.length ∧ (v = (0, [(.v (.str s)), (.v (.sl (some (xs.map V.str)))), (.v (.int .i64 (i : Int)))]) ∨ v = (1, [(.v (.str s)), (.v (.sl (some (xs.map V.str)))), (.v (.int .i64 (i : Int)))]) ∨
          ∃ t : Str, t ≠ [] ∧ t.length ≤ i * M ∧ v = (2, [(.v (.str s)), (.v (.sl (some (xs.map V.str)))), (.v (.int .i64 (i : Int))), .l (strV t)])))
        (fun v => match hV v.2 2 with | .int _ k => (s.length - k).toNat | _ => 0) _ ?_ FU _ ⟨0, Nat.zero_le _, .inl rfl⟩ (by simp only [hV, FU, List.getD_cons_succ, List.getD_cons_zero]; omega)
      rintro v ⟨i, hi, hv⟩
      have w3 : i + 3 ≤ s.length → IntKind.wrap .i64 (IntKind.wrap .i64 ((i : Int) + 2) + 1) = ((i + 3 : Nat) : Int) := fun h => by
        rw [w64 (x := (i : Int) + 2) (by omega) (by omega), w64 (by omega) (by omega)]; omega
      have w1 : i < s.length → IntKind.wrap .i64 ((i : Int) + 1) = ((i + 1 : Nat) : Int) := fun h => by rw [w64 (by omega) (by omega)]; omega
      have m1 : ∀ a b : Nat, a ≤ b → a * M ≤ b * M := fun a b h => Nat.mul_le_mul_right M h
      have m3 : (i + 3) * M = i * M + 3 * M := Nat.add_mul ..
      have mi1 : (i + 1) * M = i * M + M := by rw [Nat.add_mul, Nat.one_mul]
      rcases hv with rfl | rfl | ⟨t, ht, htl, rfl⟩
      · simp only [pfill_L0, sel, hV, List.getD_cons_zero, List.getD_cons_succ, asStr_str, asSl_sl, asInt_int, Option.bind_some]
        refine fillD_ok s xs i _ _ _ _ (by omega) hxl (fun x hxx h3 => ?_) (fun c h1 => ?_) fun h1 => by simp
        · rw [w3 h3]
          have hxm := hx x hxx
          refine Ok.cond (fun _ => ?_) fun he => ?_
          · simp only [ok_some, hV, List.getD_cons_zero, List.getD_cons_succ]
            exact ⟨⟨i + 3, h3, .inr (.inl rfl)⟩, by omega⟩
          · have hne : x ≠ [] := fun e => by rw [e] at he; cases he
            have : M ≤ (i + 3) * M := by omega
            have := m1 (i + 3) s.length h3
            rw [strV_len, strV_okEl, fits_of (by omega)]
            simp only [Bool.and_self, chk_true, ok_some, hV, List.getD_cons_zero, List.getD_cons_succ]
            exact ⟨⟨i + 3, h3, .inr (.inr ⟨x, hne, by omega, rfl⟩)⟩, by omega⟩
        · rw [w1 h1]
          simp only [ok_some, hV, List.getD_cons_zero, List.getD_cons_succ]
          exact ⟨⟨i + 1, h1, .inr (.inr ⟨[c], by simp, by simp; omega, rfl⟩)⟩, by omega⟩
      · simp only [pfill_L0, sel, hV, List.getD_cons_zero, List.getD_cons_succ, asStr_str, asSl_sl, asInt_int, Option.bind_some]
        refine fillD_ok s xs i _ _ _ _ (by omega) hxl (fun x hxx h3 => ?_) (fun c h1 => ?_) fun h1 => by simp
        · rw [w3 h3]
          have hxm := hx x hxx
          refine Ok.cond (fun _ => ?_) fun he => ?_
          · simp only [ok_some, hV, List.getD_cons_zero, List.getD_cons_succ]
            exact ⟨⟨i + 3, h3, .inr (.inl rfl)⟩, by omega⟩
          · have hne : x ≠ [] := fun e => by rw [e] at he; cases he
            have := m1 (i + 3) s.length h3
            rw [strV_len, strV_okEl, fits_of (by omega)]
            simp only [Bool.and_self, chk_true, ok_some, hV, List.getD_cons_zero, List.getD_cons_succ]
            exact ⟨⟨i + 3, h3, .inr (.inr ⟨x, hne, by omega, rfl⟩)⟩, by omega⟩
        · rw [w1 h1]
          simp only [ok_some, hV, List.getD_cons_zero, List.getD_cons_succ]
          exact ⟨⟨i + 1, h1, .inr (.inr ⟨[c], by simp, by simp; omega, rfl⟩)⟩, by omega⟩
      · simp only [pfill_L0, sel, hV, hL, List.getD_cons_zero, List.getD_cons_succ, asStr_str, asSl_sl, asInt_int, Option.bind_some]
        refine fillD_ok s xs i _ _ _ _ (by omega) hxl (fun x hxx h3 => ?_) (fun c h1 => ?_) fun h1 => ?_
        · rw [w3 h3]
          have hxm := hx x hxx
          have := m1 (i + 3) s.length h3
          rw [strV_len, strV_len, strV_okEl, fits_of (by omega), ← strV_append]
          simp only [Bool.and_self, chk_true, ok_some, hV, List.getD_cons_zero, List.getD_cons_succ]
          exact ⟨⟨i + 3, h3, .inr (.inr ⟨t ++ x, by simp [ht], by rw [List.length_append]; omega, rfl⟩)⟩, by omega⟩
        · rw [w1 h1]
          have := m1 (i + 1) s.length h1
          rw [strV_len, fits_of (by omega), ← strV_one, ← strV_append]
          simp only [Bool.and_self, chk_true, ok_some, hV, List.getD_cons_zero, List.getD_cons_succ]
          exact ⟨⟨i + 1, h1, .inr (.inr ⟨t ++ [c], by simp, by rw [List.length_append]; simp; omega, rfl⟩)⟩, by omega⟩
        · have := m1 i s.length hi
          exact (ok_some _ _).2 (.inr (.inr ⟨t, ht, by omega, rfl⟩))
    · rintro r (rfl | rfl | ⟨t, ht, htl, rfl⟩)
      · simp [sel]
      · simp [sel]
      · have h0 : decide (0 < (strV t).length) = true := decide_eq_true (by rw [strV_len]; exact List.length_pos_iff.2 ht)
        simp only [sel, hL, List.getD_cons_zero, bytesOf_strV, Option.bind_some, h0, strV_okB, Bool.and_self, chk_true, ok_some]
        exact htl
  exact this
end Go.Ev
