/- Plain law: names of locales, cut into words: what is read is written so that it is read again as the same. No program in sight. -/
import Derived.Test.YtiniebodbanmnaaDoorCuSpl
namespace Go.Ev.Loc
open Go Go.Ev
abbrev Str := List UInt8
def small : Str := [97, 98, 99, 100, 101, 102, 103, 104, 105, 106, 107, 108, 109, 110, 111, 112, 113, 114, 115, 116, 117, 118, 119, 120, 121, 122]
def great : Str := [65, 66, 67, 68, 69, 70, 71, 72, 73, 74, 75, 76, 77, 78, 79, 80, 81, 82, 83, 84, 85, 86, 87, 88, 89, 90]
def digits : Str := [48, 49, 50, 51, 52, 53, 54, 55, 56, 57]
def rest : Str := [122, 122, 122, 122]
def ofB (s set : Str) (a b : Nat) : Bool := decide (a ≤ s.length) && (decide (s.length ≤ b) && s.all set.contains)
def langB (s : Str) : Bool := ofB s small 2 3
def regB (s : Str) : Bool := ofB s great 2 2 || ofB s digits 3 3
def up (s : Str) : Str := s.map fun c => if 97 ≤ c ∧ c ≤ 122 then c - 32 else c
def down (s : Str) : Str := s.map fun c => if 65 ≤ c ∧ c ≤ 90 then c + 32 else c
def kRG : Str := [114, 103]
def kMS : Str := [109, 115]
def kMU : Str := [109, 117]
def isMS (v : Str) : Bool := v == [109, 101, 116, 114, 105, 99] || (v == [117, 115, 115, 121, 115, 116, 101, 109] || v == [117, 107, 115, 121, 115, 116, 101, 109])
def isMU (v : Str) : Bool := v == [99, 101, 108, 115, 105, 117, 115] || (v == [102, 97, 104, 114, 101, 110, 104, 101] || v == [107, 101, 108, 118, 105, 110])
structure Liked where
  rg : Str
  ms : Str
  mu : Str
def setB (k v : Str) (x : Liked) : Option Liked :=
  if k = kRG then
    if 4 ≤ v.length ∧ v.drop (v.length - 4) = rest ∧ x.rg = [] ∧ (ofB (v.take (v.length - 4)) small 2 2 || ofB (v.take (v.length - 4)) digits 3 3) = true then some { x with rg := up (v.take (v.length - 4)) } else none
  else if k = kMS then
    if x.ms = [] ∧ isMS v = true then some { x with ms := v } else none
  else if k = kMU then
    if x.mu = [] ∧ isMU v = true then some { x with mu := v } else none
  else none
def foldB : List Str → Liked → Option Liked
  | [], x => some x
  | [_], _ => none
  | k :: v :: r, x => (setB k v x).bind (foldB r)
structure Locale where
  lang : Str
  region : Str
  liked : Liked
def tailB (lang region : Str) (r : List Str) : Option Locale :=
  match r with
  | [] => some ⟨lang, region, ⟨[], [], []⟩⟩
  | u :: t => if u = [117] ∧ t ≠ [] ∧ t.length % 2 = 0 then (foldB t ⟨[], [], []⟩).map fun y => ⟨lang, region, y⟩ else none
def parseB : List Str → Option Locale
  | [] => none
  | w :: r => if langB w then (match r with
    | [] => tailB w [] []
    | a :: t => if regB a then tailB w a t else tailB w [] (a :: t)) else none
def pairs (x : Liked) : List Str :=
  (if x.rg = [] then [] else [kRG, down x.rg ++ rest]) ++ ((if x.ms = [] then [] else [kMS, x.ms]) ++ (if x.mu = [] then [] else [kMU, x.mu]))
def canon (x : Locale) : List Str :=
  x.lang :: ((if x.region = [] then [] else [x.region]) ++ (if x.liked.rg = [] ∧ x.liked.ms = [] ∧ x.liked.mu = [] then [] else [117] :: pairs x.liked))

/-! ### What is liked -/
def okRG (s : Str) : Bool := ofB s great 2 2 || ofB s digits 3 3
structure Fine (x : Liked) : Prop where
  rg : x.rg = [] ∨ okRG x.rg = true
  ms : x.ms = [] ∨ isMS x.ms = true
  mu : x.mu = [] ∨ isMU x.mu = true

theorem ofB_len {s set : Str} {a b : Nat} (h : ofB s set a b = true) : a ≤ s.length ∧ s.length ≤ b ∧ s.all set.contains = true := by
  unfold ofB at h
  simp only [Bool.and_eq_true, decide_eq_true_eq] at h
  exact ⟨h.1, h.2.1, h.2.2⟩
theorem isMS_ne {v : Str} (h : isMS v = true) : v ≠ [] := fun e => by subst e; exact absurd h (by decide)
theorem isMU_ne {v : Str} (h : isMU v = true) : v ≠ [] := fun e => by subst e; exact absurd h (by decide)
theorem okRG_ne {v : Str} (h : okRG v = true) : v ≠ [] := fun e => by subst e; exact absurd h (by decide)
theorem down_up_small : ∀ c ∈ small, (let u := if 97 ≤ c ∧ c ≤ 122 then c - 32 else c; u ∈ great ∧ (if 65 ≤ u ∧ u ≤ 90 then u + 32 else u) = c) := by decide
theorem up_down_great : ∀ c ∈ great, (let u := if 65 ≤ c ∧ c ≤ 90 then c + 32 else c; u ∈ small ∧ (if 97 ≤ u ∧ u ≤ 122 then u - 32 else u) = c) := by decide
theorem up_digits : ∀ c ∈ digits, (if 97 ≤ c ∧ c ≤ 122 then c - 32 else c) = c ∧ (if 65 ≤ c ∧ c ≤ 90 then c + 32 else c) = c := by decide

theorem all_map {p : UInt8 → Bool} {f : UInt8 → UInt8} {s : Str} (h : ∀ c ∈ s, p (f c) = true) : (s.map f).all p = true := by
  rw [List.all_map, List.all_eq_true]; exact h
theorem map_back {f g : UInt8 → UInt8} {s : Str} (h : ∀ c ∈ s, g (f c) = c) : (s.map f).map g = s := by
  rw [List.map_map]
  conv => rhs; rw [← List.map_id s]
  exact List.map_congr_left h
/-- A region's value, turned to great letters and back. -/
theorem up_ok {s : Str} (h : (ofB s small 2 2 || ofB s digits 3 3) = true) : okRG (up s) = true ∧ (up s).length = s.length := by
  refine ⟨?_, by unfold up; rw [List.length_map]⟩
  unfold okRG
  rcases Bool.or_eq_true_iff.1 h with h | h
  · obtain ⟨h1, h2, h3⟩ := ofB_len h
    refine Bool.or_eq_true_iff.2 (.inl ?_)
    unfold ofB
    have : (up s).length = s.length := by unfold up; rw [List.length_map]
    rw [this, decide_eq_true h1, decide_eq_true h2]
    exact all_map fun c hc => by
      have := List.all_eq_true.1 h3 c hc
      exact List.contains_iff_mem.2 (down_up_small c (List.contains_iff_mem.1 this)).1
  · obtain ⟨h1, h2, h3⟩ := ofB_len h
    have e : up s = s := by
      unfold up
      conv => rhs; rw [← List.map_id s]
      exact List.map_congr_left fun c hc => (up_digits c (List.contains_iff_mem.1 (List.all_eq_true.1 h3 c hc))).1
    rw [e]
    exact Bool.or_eq_true_iff.2 (.inr h)
theorem down_ok {s : Str} (h : okRG s = true) : (ofB (down s) small 2 2 || ofB (down s) digits 3 3) = true ∧ up (down s) = s ∧ (down s).length = s.length := by
  have hl : (down s).length = s.length := by unfold down; rw [List.length_map]
  unfold okRG at h
  rcases Bool.or_eq_true_iff.1 h with h | h
  · obtain ⟨h1, h2, h3⟩ := ofB_len h
    refine ⟨Bool.or_eq_true_iff.2 (.inl ?_), ?_, hl⟩
    · unfold ofB
      rw [hl, decide_eq_true h1, decide_eq_true h2]
      exact all_map fun c hc => by
        have := List.all_eq_true.1 h3 c hc
        exact List.contains_iff_mem.2 (up_down_great c (List.contains_iff_mem.1 this)).1
    · exact map_back fun c hc => (up_down_great c (List.contains_iff_mem.1 (List.all_eq_true.1 h3 c hc))).2
  · obtain ⟨h1, h2, h3⟩ := ofB_len h
    have e : down s = s := by
      unfold down
      conv => rhs; rw [← List.map_id s]
      exact List.map_congr_left fun c hc => (up_digits c (List.contains_iff_mem.1 (List.all_eq_true.1 h3 c hc))).2
    have e2 : up s = s := by
      unfold up
      conv => rhs; rw [← List.map_id s]
      exact List.map_congr_left fun c hc => (up_digits c (List.contains_iff_mem.1 (List.all_eq_true.1 h3 c hc))).1
    rw [e, e2]
    exact ⟨Bool.or_eq_true_iff.2 (.inr h), rfl, rfl⟩

def wlen (ws : List Str) : Nat := (ws.map fun w => w.length + 1).sum
def plen (x : Liked) : Nat := (if x.rg = [] then 0 else 3 + (x.rg.length + 5)) + ((if x.ms = [] then 0 else 3 + (x.ms.length + 1)) + (if x.mu = [] then 0 else 3 + (x.mu.length + 1)))

theorem setB_fine {k v : Str} {x y : Liked} (h : setB k v x = some y) (hx : Fine x) : Fine y ∧ plen y = plen x + (k.length + 1 + (v.length + 1)) := by
  unfold setB at h
  split at h
  · rename_i hk
    split at h
    · rename_i hc
      obtain ⟨h4, h5, h6, h7⟩ := hc
      obtain ⟨h8, h9⟩ := up_ok h7
      cases h
      refine ⟨⟨.inr h8, hx.ms, hx.mu⟩, ?_⟩
      unfold plen
      simp only [h6, if_true, if_neg (okRG_ne h8), h9, List.length_take, hk, kRG, List.length_cons, List.length_nil]
      omega
    · cases h
  · split at h
    · rename_i hk
      split at h
      · rename_i hc
        obtain ⟨h6, h7⟩ := hc
        cases h
        refine ⟨⟨hx.rg, .inr h7, hx.mu⟩, ?_⟩
        unfold plen
        simp only [h6, if_true, if_neg (isMS_ne h7), hk, kMS, List.length_cons, List.length_nil]
        omega
      · cases h
    · split at h
      · rename_i hk
        split at h
        · rename_i hc
          obtain ⟨h6, h7⟩ := hc
          cases h
          refine ⟨⟨hx.rg, hx.ms, .inr h7⟩, ?_⟩
          unfold plen
          simp only [h6, if_true, if_neg (isMU_ne h7), hk, kMU, List.length_cons, List.length_nil]
          omega
        · cases h
      · cases h

theorem foldB_fine : ∀ {ws : List Str} {x y : Liked}, foldB ws x = some y → Fine x → Fine y ∧ plen y = plen x + wlen ws
  | [], x, y, h, hx => by cases h; exact ⟨hx, by simp [wlen]⟩
  | [_], x, y, h, hx => by cases h
  | k :: v :: r, x, y, h, hx => by
    rw [foldB, Option.bind_eq_some_iff] at h
    obtain ⟨z, h1, h2⟩ := h
    obtain ⟨h3, h4⟩ := setB_fine h1 hx
    obtain ⟨h5, h6⟩ := foldB_fine h2 h3
    refine ⟨h5, ?_⟩
    rw [h6, h4]
    simp only [wlen, List.map_cons, List.sum_cons]
    omega

theorem set_rg {x : Liked} {s : Str} (hx : x.rg = []) (h : okRG s = true) : setB kRG (down s ++ rest) x = some { x with rg := s } := by
  obtain ⟨h1, h2, h3⟩ := down_ok h
  have hl : (down s ++ rest).length - 4 = (down s).length := by simp [rest]
  unfold setB
  rw [if_pos rfl, hl, List.take_left, List.drop_left, if_pos ⟨by simp [rest], rfl, hx, h1⟩, h2]
theorem set_ms {x : Liked} {s : Str} (hx : x.ms = []) (h : isMS s = true) : setB kMS s x = some { x with ms := s } := by
  unfold setB
  rw [if_neg (by decide), if_pos rfl, if_pos ⟨hx, h⟩]
theorem set_mu {x : Liked} {s : Str} (hx : x.mu = []) (h : isMU s = true) : setB kMU s x = some { x with mu := s } := by
  unfold setB
  rw [if_neg (by decide), if_neg (by decide), if_pos rfl, if_pos ⟨hx, h⟩]

/-- What is liked, written and read again. -/
theorem fold_pairs {x : Liked} (h : Fine x) : foldB (pairs x) ⟨[], [], []⟩ = some x ∧ wlen (pairs x) = plen x ∧ (pairs x).length % 2 = 0 := by
  obtain ⟨rg, ms, mu⟩ := x
  obtain ⟨h1, h2, h3⟩ := h
  simp only at h1 h2 h3
  have d : ∀ s : Str, okRG s = true → (down s).length = s.length := fun s hs => (down_ok hs).2.2
  unfold pairs plen
  by_cases e1 : rg = []
  · by_cases e2 : ms = []
    · by_cases e3 : mu = []
      · subst e1 e2 e3; simp [foldB, wlen]
      · have g3 := h3.resolve_left e3
        subst e1 e2
        refine ⟨?_, ?_, ?_⟩
        · simp [foldB, e3, set_mu (x := ⟨[], [], []⟩) rfl g3]
        · simp [e3, wlen, kMU]
        · simp [e3]
    · have g2 := h2.resolve_left e2
      by_cases e3 : mu = []
      · subst e1 e3
        refine ⟨?_, ?_, ?_⟩
        · simp [foldB, e2, set_ms (x := ⟨[], [], []⟩) rfl g2]
        · simp [e2, wlen, kMS]
        · simp [e2]
      · have g3 := h3.resolve_left e3
        subst e1
        refine ⟨?_, ?_, ?_⟩
        · simp [foldB, e2, e3, set_ms (x := ⟨[], [], []⟩) rfl g2, set_mu (x := ⟨[], ms, []⟩) rfl g3]
        · simp [e2, e3, wlen, kMS, kMU]; omega
        · simp [e2, e3]
  · have g1 := h1.resolve_left e1
    have s1 := set_rg (x := ⟨[], [], []⟩) rfl g1
    have dl := d rg g1
    by_cases e2 : ms = []
    · by_cases e3 : mu = []
      · subst e2 e3
        refine ⟨?_, ?_, ?_⟩
        · simp [foldB, e1, s1]
        · simp [e1, wlen, kRG, rest, dl]
        · simp [e1]
      · have g3 := h3.resolve_left e3
        subst e2
        refine ⟨?_, ?_, ?_⟩
        · simp [foldB, e1, e3, s1, set_mu (x := ⟨rg, [], []⟩) rfl g3]
        · simp [e1, e3, wlen, kRG, kMU, rest, dl]; omega
        · simp [e1, e3]
    · have g2 := h2.resolve_left e2
      by_cases e3 : mu = []
      · subst e3
        refine ⟨?_, ?_, ?_⟩
        · simp [foldB, e1, e2, s1, set_ms (x := ⟨rg, [], []⟩) rfl g2]
        · simp [e1, e2, wlen, kRG, kMS, rest, dl]; omega
        · simp [e1, e2]
      · have g3 := h3.resolve_left e3
        refine ⟨?_, ?_, ?_⟩
        · simp [foldB, e1, e2, e3, s1, set_ms (x := ⟨rg, [], []⟩) rfl g2, set_mu (x := ⟨rg, ms, []⟩) rfl g3]
        · simp [e1, e2, e3, wlen, kRG, kMS, kMU, rest, dl]; omega
        · simp [e1, e2, e3]

theorem regB_ne {s : Str} (h : regB s = true) : s ≠ [] := okRG_ne h
theorem fine0 : Fine ⟨[], [], []⟩ := ⟨.inl rfl, .inl rfl, .inl rfl⟩
theorem wlen_cons (w : Str) (ws : List Str) : wlen (w :: ws) = w.length + 1 + wlen ws := by simp [wlen]

theorem tail_back {l r : Str} {t : List Str} {x : Locale} (h : tailB l r t = some x) : x.lang = l ∧ x.region = r ∧ Fine x.liked ∧
    tailB l r (if x.liked.rg = [] ∧ x.liked.ms = [] ∧ x.liked.mu = [] then [] else [117] :: pairs x.liked) = some x ∧
    wlen (if x.liked.rg = [] ∧ x.liked.ms = [] ∧ x.liked.mu = [] then [] else [117] :: pairs x.liked) = wlen t := by
  cases t with
  | nil =>
    cases h
    exact ⟨rfl, rfl, fine0, by simp [tailB], by simp [wlen]⟩
  | cons u t =>
    unfold tailB at h
    simp only at h
    split at h
    · rename_i hc
      obtain ⟨hu, ht, h2⟩ := hc
      rw [Option.map_eq_some_iff] at h
      obtain ⟨y, h3, rfl⟩ := h
      obtain ⟨h4, h5⟩ := foldB_fine h3 fine0
      obtain ⟨h6, h7, h8⟩ := fold_pairs h4
      have hp0 : plen ⟨[], [], []⟩ = 0 := rfl
      rw [hp0] at h5
      have hw : 0 < wlen t := by
        cases t with
        | nil => exact absurd rfl ht
        | cons a b => rw [wlen_cons]; omega
      have hne : ¬ (y.rg = [] ∧ y.ms = [] ∧ y.mu = []) := fun ⟨a, b, c⟩ => by
        unfold plen at h5
        simp only [a, b, c, if_true] at h5
        omega
      refine ⟨rfl, rfl, h4, ?_, ?_⟩
      · simp only [if_neg hne]
        have ht2 : tailB l r ([117] :: pairs y) = if ([117] : Str) = [117] ∧ pairs y ≠ [] ∧ (pairs y).length % 2 = 0 then (foldB (pairs y) ⟨[], [], []⟩).map fun y => ⟨l, r, y⟩ else none := rfl
        rw [ht2]
        have hpn : pairs y ≠ [] := fun e => by rw [e] at h7; simp [wlen] at h7; omega
        rw [if_pos ⟨rfl, hpn, h8⟩, h6]; rfl
      · simp only [if_neg hne, wlen_cons, h7, hu]
        omega
    · cases h

theorem parse_nil (w : Str) : parseB [w] = if langB w then tailB w [] [] else none := rfl
theorem parse_cons (w a : Str) (t : List Str) : parseB (w :: a :: t) = if langB w then (if regB a then tailB w a t else tailB w [] (a :: t)) else none := rfl
theorem not_reg_u : regB [117] = false := by decide
/-- What is read, written: read again as the same; as long. -/
theorem back {ws : List Str} {x : Locale} (h : parseB ws = some x) : parseB (canon x) = some x ∧ wlen (canon x) = wlen ws := by
  cases ws with
  | nil => cases h
  | cons w r =>
    have hl : langB w = true := by
      cases hb : langB w with
      | true => rfl
      | false => cases r <;> simp [parseB, hb] at h
    · have fin : ∀ (reg : Str) (t : List Str), tailB w reg t = some x → (reg = [] ∨ regB reg = true) → parseB (canon x) = some x ∧ wlen (canon x) = w.length + 1 + ((if reg = [] then 0 else reg.length + 1) + wlen t) := by
        intro reg t ht hr
        obtain ⟨e1, e2, hf, h3, h4⟩ := tail_back ht
        unfold canon
        rw [e1, e2]
        by_cases hreg : reg = []
        · subst hreg
          simp only [if_true, List.nil_append]
          refine ⟨?_, by rw [wlen_cons, h4]; omega⟩
          by_cases hn : x.liked.rg = [] ∧ x.liked.ms = [] ∧ x.liked.mu = []
          · rw [if_pos hn] at h3 ⊢; rw [parse_nil, if_pos hl]; exact h3
          · rw [if_neg hn] at h3 ⊢
            rw [parse_cons, if_pos hl, not_reg_u]
            exact h3
        · have hr' := hr.resolve_left hreg
          simp only [if_neg hreg, List.singleton_append]
          refine ⟨?_, by rw [wlen_cons, wlen_cons, h4]⟩
          rw [parse_cons, if_pos hl, hr']
          exact h3
      cases r with
      | nil =>
        rw [parse_nil, if_pos hl] at h
        obtain ⟨h1, h2⟩ := fin [] [] h (.inl rfl)
        exact ⟨h1, by rw [h2, wlen_cons]; simp⟩
      | cons a t =>
        rw [parse_cons, if_pos hl] at h
        split at h
        · rename_i hr
          obtain ⟨h1, h2⟩ := fin a t h (.inr hr)
          exact ⟨h1, by rw [h2, wlen_cons, wlen_cons, if_neg (regB_ne hr)]⟩
        · obtain ⟨h1, h2⟩ := fin [] (a :: t) h (.inl rfl)
          exact ⟨h1, by rw [h2, if_pos rfl, wlen_cons w]; omega⟩
end Go.Ev.Loc
