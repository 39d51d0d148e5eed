/- Plain laws: loops, rows, numbers. -/
import Derived.Test.YtmlhdhndjgdoaaaGreatDoorCuSt
import Derived.Lib.RuneCount
import Derived.IntWalk
namespace Go.Ev

@[simp] theorem asStr_str (s : List UInt8) : asStr? (.str s) = some s := rfl
@[simp] theorem asBool_bool (b : Bool) : asBool? (.bool b) = some b := rfl
@[simp] theorem asInt_int (k : IntKind) (n : Int) : asInt? k (.int k n) = some n := by simp [asInt?]
@[simp] theorem asSl_sl (o : Option (List V)) : asSl? (.sl o) = some o := rfl
@[simp] theorem asMp_mp (o : Option (List V)) : asMp? (.mp o) = some o := rfl
@[simp] theorem asPt_pt (o : Option (List V)) : asPt? (.pt o) = some o := rfl
@[simp] theorem asAgg_agg (n : Nat) (cs : List V) : asAgg? n (.agg cs) = if cs.length = n then some cs else none := rfl
@[simp] theorem asPtr_pt (n : Nat) (cs : List V) : asPtr? n (.pt (some cs)) = if cs.length = n then some cs else none := rfl
@[simp] theorem chk_true {β : Type} (k : Option β) : chk true k = k := rfl
@[simp] theorem chk_false {β : Type} (k : Option β) : chk false k = none := rfl

/-- A loop ends: what holds at its head, what falls, what it comes to. -/
theorem loopK_inv {σ ρ : Type} {body : σ → Option (σ ⊕ ρ)} (I : σ → Prop) (m : σ → Nat) (Q : ρ → Prop)
    (step : ∀ s, I s → (∃ s', body s = some (.inl s') ∧ I s' ∧ m s' < m s) ∨ ∃ r, body s = some (.inr r) ∧ Q r) :
    ∀ (n : Nat) (s : σ), I s → m s < n → ∃ r, loopK body n s = some r ∧ Q r := by
  intro n
  induction n with
  | zero => intro s _ h; omega
  | succ n ih =>
    intro s hI hm
    rcases step s hI with ⟨s', h1, h2, h3⟩ | ⟨r, h1, h2⟩
    · obtain ⟨r, h4, h5⟩ := ih s' h2 (by omega)
      exact ⟨r, by simp only [loopK, h1, Option.bind_some]; exact h4, h5⟩
    · exact ⟨r, by simp only [loopK, h1, Option.bind_some], h2⟩

theorem w64 {x : Int} (h1 : -9223372036854775808 ≤ x) (h2 : x ≤ 9223372036854775807) : IntKind.wrap .i64 x = x := by
  rw [IntKind.wrap_i64]; omega

theorem idxL_lt {α : Type} {xs : List α} {n : Int} (h0 : 0 ≤ n) (h : n < xs.length) : ∃ x, idxL xs n = some x ∧ x ∈ xs ∧ xs[n.toNat]? = some x := by
  have hn : n.toNat < xs.length := by omega
  refine ⟨xs[n.toNat], ?_, List.getElem_mem _, List.getElem?_eq_getElem hn⟩
  unfold idxL
  rw [if_neg (by omega)]
  exact List.getElem?_eq_getElem hn

theorem cutL_from {α : Type} {xs : List α} {n : Int} (h0 : 0 ≤ n) (h : n ≤ xs.length) : cutL (some n) none xs = some (xs.drop n.toNat) := by
  unfold cutL bI
  simp only [Option.getD_some, Option.getD_none]
  rw [if_pos (by omega), if_pos (by omega)]
  simp only [Option.some.injEq]
  rw [List.take_of_length_le]
  simp

theorem cutL_to {α : Type} {xs : List α} {n : Int} (h0 : 0 ≤ n) (h : n ≤ xs.length) : cutL none (some n) xs = some (xs.take n.toNat) := by
  unfold cutL bI
  simp only [Option.getD_some, Option.getD_none]
  rw [if_pos (by omega), if_pos (by omega)]
  simp

theorem cutSl_from {xs : List V} {sz : Nat} {n : Int} (hh : ∀ y ∈ xs, y.cells.length = sz) (h0 : 0 ≤ n) (h : n ≤ xs.length) : cutSl sz (some n) none (some xs) = some (some (xs.drop n.toNat)) := by
  have h1 : (xs.head?.all fun y => y.cells.length == sz) = true := by
    cases xs with
    | nil => rfl
    | cons a xs => simpa using hh a (List.mem_cons_self ..)
  simp only [cutSl]
  rw [if_pos h1, cutL_from h0 h]
  rfl

theorem dec_pos (s : List UInt8) (k : Nat) (h : k < s.length) : 1 ≤ (Utf8.decode ⟨s.toArray⟩ k).2 := Lib.decode_width_pos ⟨s.toArray⟩ k h

/-! ### Maps: lists of keys and values -/
section
variable {K X : Type} {kt : KT} {encK : K → V} {encX : X → V}

def encM (encK : K → V) (encX : X → V) (m : List (K × X)) : List (V × T2) := m.map fun p => (encK p.1, .a (.v (encX p.2)))
def encF (encK : K → V) (encX : X → V) (m : List (K × X)) : List V := m.map fun p => .tup [encK p.1, encX p.2]
def getM [DecidableEq K] (k : K) : List (K × X) → Option X
  | [] => none
  | (k', x) :: r => if k = k' then some x else getM k r
def putM [DecidableEq K] (k : K) (x : X) : List (K × X) → List (K × X)
  | [] => [(k, x)]
  | (k', y) :: r => if k = k' then (k, x) :: r else (k', y) :: putM k x r

theorem lookE_enc [DecidableEq K] (hk : ∀ a b, keyEq kt (encK a) (encK b) = some (decide (a = b))) (k : K) (m : List (K × X)) : lookE kt (encK k) (encM encK encX m) = some ((getM k m).map encX) := by
  have key : findE kt (encK k) (encM encK encX m) = some ((getM k m).map fun x => .a (.v (encX x))) := by
    induction m with
    | nil => rfl
    | cons p m ih =>
      obtain ⟨k', x⟩ := p
      simp only [encM, List.map_cons, findE, getM, hk]
      by_cases h : k = k'
      · simp [h]
      · simp only [h, decide_false, if_false]; exact ih
  unfold lookE
  rw [key]
  cases getM k m <;> rfl

theorem putE_enc [DecidableEq K] (hk : ∀ a b, keyEq kt (encK a) (encK b) = some (decide (a = b))) (k : K) (x : X) (m : List (K × X)) : putE kt (encK k) (.a (.v (encX x))) (encM encK encX m) = some (encM encK encX (putM k x m)) := by
  induction m with
  | nil => rfl
  | cons p m ih =>
    obtain ⟨k', y⟩ := p
    simp only [encM, List.map_cons, putE, putM, hk]
    by_cases h : k = k'
    · simp [h]
    · simp only [h, decide_false, if_false]
      simp only [encM] at ih
      rw [ih]; rfl

theorem frzE_enc (m : List (K × X)) : frzE (encM encK encX m) = some (encF encK encX m) := by
  induction m with
  | nil => rfl
  | cons p m ih =>
    simp only [encM, encF, List.map_cons, frzE] at ih ⊢
    rw [ih]

theorem lookM_enc [DecidableEq K] (hk : ∀ a b, keyEq kt (encK a) (encK b) = some (decide (a = b))) (k : K) (m : List (K × X)) : lookM kt (encK k) (some (encF encK encX m)) = some ((getM k m).map encX) := by
  unfold lookM
  induction m with
  | nil => rfl
  | cons p m ih =>
    obtain ⟨k', x⟩ := p
    simp only [encF, List.map_cons, findV, getM, hk] at ih ⊢
    by_cases h : k = k'
    · simp [h]
    · simp only [h, decide_false, if_false]; exact ih

theorem putM_len [DecidableEq K] (k : K) (x : X) (m : List (K × X)) : (putM k x m).length ≤ m.length + 1 := by
  induction m with
  | nil => simp [putM]
  | cons p m ih =>
    obtain ⟨k', y⟩ := p
    simp only [putM]
    split
    · simp
    · simp; omega

theorem encM_len (m : List (K × X)) : (encM encK encX m).length = m.length := by simp [encM]
end

theorem strs_of {ws : List V} {n : Nat} (h : ∀ y ∈ ws, ∃ s, y = V.str s ∧ s.length ≤ n) : ∃ ts : List (List UInt8), ws = ts.map V.str ∧ ∀ t ∈ ts, t.length ≤ n := by
  induction ws with
  | nil => exact ⟨[], rfl, fun t h => by cases h⟩
  | cons y ws ih =>
    obtain ⟨s, rfl, hs⟩ := h y (List.mem_cons_self ..)
    obtain ⟨ts, rfl, ht⟩ := ih fun z hz => h z (List.mem_cons_of_mem _ hz)
    exact ⟨s :: ts, rfl, fun t h => by rcases List.mem_cons.1 h with rfl | h; exact hs; exact ht t h⟩
end Go.Ev
