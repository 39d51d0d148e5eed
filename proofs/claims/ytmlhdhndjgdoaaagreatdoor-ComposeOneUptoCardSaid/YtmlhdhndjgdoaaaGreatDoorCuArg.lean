/- What an argument of plain data is: its abstract value, over a world all of which is frozen. -/
import Derived.Test.YtmlhdhndjgdoaaaGreatDoorCuStD
import Derived.DataReads
import Derived.ChangeReads
namespace Go.Ev

section
variable {P : Program} {G : Globs} {H : Type} {enc : TypeId × Value → H}

/-- All that is there is frozen. -/
def allFz (w : World) (G : Globs) : Fz := ⟨fun b i => w.cell? ⟨b, i, none⟩, fun b => match w.heap[b]? with | some (.map es _) => some (.map es) | some (.cells cs _ _) => some (.cells cs) | _ => none, G⟩

/-- What is laid stands so. -/
def Globs.ok (G : Globs) (w : World) : Prop := (∀ b i v, G.c b i = some v → w.cell? ⟨b, i, none⟩ = some v) ∧ ∀ b k, G.m b = some k → (match k with | .map es => ∃ c, w.heap[b]? = some (.map es c) | .cells cs => ∃ ty fz, w.heap[b]? = some (.cells cs ty fz))
theorem allFz_ok {w : World} (hG : G.ok w) : (allFz w G).ok w :=
  ⟨fun _ _ _ h => h, (fun b es h => by
    simp only [allFz] at h
    split at h
    · rename_i es' c hb
      cases h
      exact ⟨c, hb⟩
    · rename_i cs ty fz hb
      cases h
      exact ⟨ty, fz, hb⟩
    · cases h), hG.1, fun b k hk => by
      have := hG.2 b k hk
      cases k with
      | map es => obtain ⟨c, hb⟩ := this; simp only [allFz, hb]
      | cells cs => obtain ⟨t, f, hb⟩ := this; simp only [allFz, hb]⟩

/-- Types of plain data: numbers, bools, strings, slices and structs of such. -/
def plainT (P : Program) : Nat → TypeId → Bool
  | 0, _ => false
  | d + 1, t => match P.underlying t with
    | some .bool => sizeT P t == some 1
    | some (.int _) => sizeT P t == some 1
    | some .string => sizeT P t == some 1
    | some (.slice e) => sizeT P t == some 1 && decide (0 < P.cellsOf e) && plainT P d e
    | some (.struct fs) => tiles P fs.toList 0 == sizeT P t && (sizeT P t).isSome && fs.toList.all fun f => plainT P d f.type
    | _ => false

def TyFs (T : TypeId → List V → Prop) : List Field → List V → Prop
  | [], vs => vs = []
  | f :: r, vs => ∃ a b, vs = a ++ b ∧ T f.type a ∧ TyFs T r b

/-- An element's value by its cells. -/
def elOf (P : Program) (t : TypeId) (vs : List V) : V := if aggT P t = some true then .agg vs else vs.headD .nilp

/-- The cells of a value of such a type. -/
def TyL (P : Program) : Nat → TypeId → List V → Prop
  | 0, _, _ => False
  | d + 1, t, vs => match P.underlying t with
    | some .bool => ∃ b, vs = [.bool b]
    | some (.int k) => ∃ n, vs = [.int k n] ∧ (Lit.int k n).wf = true
    | some .string => ∃ s, vs = [.str s] ∧ s.length ≤ 9223372036854775807
    | some (.slice e) => ∃ o, vs = [.sl o] ∧ ∀ xs, o = some xs → xs.length ≤ 9223372036854775807 ∧ ∀ x ∈ xs, ∃ ys, x = elOf P e ys ∧ ys.length = P.cellsOf e ∧ TyL P d e ys
    | some (.struct fs) => TyFs (TyL P d) fs.toList vs
    | _ => False

theorem cellsOf_size {t : TypeId} {n : Nat} (h : sizeT P t = some n) : P.cellsOf t = n := by
  unfold sizeT at h
  unfold Program.cellsOf
  rw [h]; rfl

theorem one_of_ty {d : Nat} {t : TypeId} {vs : List V} (h : TyL P d t vs) (ha : aggT P t ≠ some true) : ∃ v, vs = [v] ∧ v.one = true := by
  cases d with
  | zero => exact h.elim
  | succ d =>
    simp only [TyL] at h
    split at h
    · obtain ⟨b, rfl⟩ := h; exact ⟨_, rfl, rfl⟩
    · obtain ⟨n, rfl, _⟩ := h; exact ⟨_, rfl, rfl⟩
    · obtain ⟨s, rfl, _⟩ := h; exact ⟨_, rfl, rfl⟩
    · obtain ⟨o, rfl, _⟩ := h; exact ⟨_, rfl, rfl⟩
    · rename_i fs hu
      exact absurd (by simp [aggT, hu]) ha
    · exact h.elim

theorem elOf_cells {d : Nat} {t : TypeId} {vs : List V} (h : TyL P d t vs) : (elOf P t vs).cells = vs := by
  unfold elOf
  split
  · rfl
  · rename_i ha
    obtain ⟨v, rfl, hv⟩ := one_of_ty h ha
    exact cells_one hv

variable {w : World} {base : Nat} {sp : Nat → Bool} {held : Bool}

theorem flat_len {xs : List V} {n : Nat} (h : ∀ x ∈ xs, x.cells.length = n) : (flat xs).length = xs.length * n := by
  induction xs with
  | nil => simp [flat]
  | cons x xs ih =>
    have h1 := h x (List.mem_cons_self ..)
    have h2 := ih fun y hy => h y (List.mem_cons_of_mem _ hy)
    simp only [flat, List.flatMap_cons, List.length_append, List.length_cons] at h2 ⊢
    rw [h1, h2, Nat.add_mul]; omega

/-- Rows of cells, one behind the other. -/
theorem flatGet {xs : List V} {n : Nat} (h : ∀ x ∈ xs, x.cells.length = n) : ∀ {i : Nat} {x : V} {k : Nat}, xs[i]? = some x → k < n → (flat xs)[i * n + k]? = x.cells[k]? := by
  induction xs with
  | nil => intro i x k hi; simp at hi
  | cons y xs ih =>
    intro i x k hi hk
    have hy := h y (List.mem_cons_self ..)
    cases i with
    | zero =>
      simp at hi; subst hi
      simp only [flat, List.flatMap_cons, Nat.zero_mul, Nat.zero_add]
      rw [List.getElem?_append_left (by omega)]
    | succ i =>
      have := ih (fun z hz => h z (List.mem_cons_of_mem _ hz)) (i := i) (x := x) (k := k) (by simpa using hi) hk
      simp only [flat, List.flatMap_cons] at this ⊢
      rw [List.getElem?_append_right (by rw [hy, Nat.add_mul]; omega), hy]
      rw [← this]
      congr 1
      rw [Nat.add_mul]; omega

/-! How much a reading holds; how much a value holds. -/
mutual
def bulkD : DataW H → Nat
  | .lit (.string bytes) => bytes.length + 1
  | .lit _ => 1
  | .nil => 1
  | .ptr d => bulkD d + 1
  | .slice elems spare => bulkDs elems + bulkDs spare + 1
  | .agg parts => bulkDs parts + 1
  | .iface _ d => bulkD d + 1
  | .map entries => bulkEs entries + 1
  | .held _ => 1
def bulkDs : List (DataW H) → Nat
  | [] => 0
  | d :: r => bulkD d + bulkDs r
def bulkEs : List (Lit × DataW H) → Nat
  | [] => 0
  | x :: r => bulkE x + bulkEs r
def bulkE : Lit × DataW H → Nat
  | (.string bytes, d) => bytes.length + bulkD d + 1
  | (_, d) => bulkD d + 1
end
mutual
def vsz : V → Nat
  | .str s => s.length + 1
  | .sl o => vszO o + 1
  | .agg l => vszs l + 1
  | _ => 1
def vszO : Option (List V) → Nat
  | none => 0
  | some l => vszs l
def vszs : List V → Nat
  | [] => 0
  | v :: r => vsz v + vszs r
end

theorem rep_slice {e : TypeId} {d : Nat} {b o len cap n : Nat} {cells : Nat → List Value} {vss : Nat → List V} (hn : 0 < n) (hcap : len ≤ cap)
    (hc : ∀ i, i < len → (cells i).length = n ∧ ∀ k, k < n → w.cell? ⟨b, o + i * n + k, none⟩ = (cells i)[k]?) (hr : ∀ i, i < len → TyL P d e (vss i) ∧ Pw (Rep (allFz w G)) (vss i) (cells i)) :
    ∃ xs : List V, xs.length = len ∧ (∀ x ∈ xs, ∃ ys, x = elOf P e ys ∧ ys.length = n ∧ TyL P d e ys) ∧ Rep (allFz w G) (.list xs) (.slice (some ⟨b, o, none⟩) len cap) ∧ xs = (List.range len).map fun i => elOf P e (vss i) := by
  let xs : List V := (List.range len).map fun i => elOf P e (vss i)
  have hlen : xs.length = len := by simp [xs]
  have hget : ∀ i, i < len → xs[i]? = some (elOf P e (vss i)) := fun i hi => by simp [xs, hi]
  have hmem : ∀ x ∈ xs, ∃ i, i < len ∧ x = elOf P e (vss i) := fun x hx => by
    simp only [xs, List.mem_map, List.mem_range] at hx
    obtain ⟨i, hi, rfl⟩ := hx
    exact ⟨i, hi, rfl⟩
  have hsz : ∀ x ∈ xs, x.cells.length = n := fun x hx => by
    obtain ⟨i, hi, rfl⟩ := hmem x hx
    rw [elOf_cells (hr i hi).1, (hr i hi).2.1, (hc i hi).1]
  let vs : List Value := (List.range len).flatMap cells
  have hvl : ∀ m, m ≤ len → ((List.range m).flatMap cells).length = m * n := by
    intro m
    induction m with
    | zero => intro _; simp
    | succ m ih =>
      intro hm
      rw [List.range_succ, List.flatMap_append, List.length_append, ih (by omega)]
      simp only [List.flatMap_cons, List.flatMap_nil, List.append_nil]
      rw [(hc m (by omega)).1, Nat.add_mul]; omega
  have hvg : ∀ m, m ≤ len → ∀ i k, i < m → k < n → ((List.range m).flatMap cells)[i * n + k]? = (cells i)[k]? := by
    intro m
    induction m with
    | zero => intro _ i k hi; omega
    | succ m ih =>
      intro hm i k hi hk
      rw [List.range_succ, List.flatMap_append]
      simp only [List.flatMap_cons, List.flatMap_nil, List.append_nil]
      rcases Nat.lt_or_ge i m with h | h
      · have hlt : i * n + k < m * n := by
          have : (i + 1) * n ≤ m * n := Nat.mul_le_mul_right n h
          rw [Nat.add_mul] at this; omega
        rw [List.getElem?_append_left (by rw [hvl m (by omega)]; exact hlt)]
        exact ih (by omega) i k h hk
      · have : i = m := by omega
        subst this
        rw [List.getElem?_append_right (by rw [hvl i (by omega)]; omega), hvl i (by omega)]
        congr 1; omega
  have hfl : (flat xs).length = vs.length := by rw [flat_len hsz, hlen, hvl len (Nat.le_refl _)]
  refine ⟨xs, hlen, fun x hx => ?_, ?_⟩
  · obtain ⟨i, hi, rfl⟩ := hmem x hx
    exact ⟨vss i, rfl, by rw [(hr i hi).2.1, (hc i hi).1], (hr i hi).1⟩
  · have split : ∀ j, j < len * n → ∃ i k, i < len ∧ k < n ∧ j = i * n + k := fun j hj => by
      refine ⟨j / n, j % n, ?_, Nat.mod_lt _ hn, ?_⟩
      · exact (Nat.div_lt_iff_lt_mul hn).2 hj
      · rw [Nat.mul_comm]; exact (Nat.div_add_mod j n).symm
    have hrep := Rep.list (S := allFz w G) (xs := xs) b o cap n vs hsz (by rw [hlen]; exact hcap) hfl (fun j v hj => ?_) (fun j c v h1 h2 => ?_)
    · rw [hlen] at hrep; exact ⟨hrep, rfl⟩
    · have hjl : j < len * n := by rw [← hvl len (Nat.le_refl _)]; exact (List.getElem?_eq_some_iff.1 hj).1
      obtain ⟨i, k, hi, hk, rfl⟩ := split j hjl
      rw [hvg len (Nat.le_refl _) i k hi hk] at hj
      show w.cell? ⟨b, o + (i * n + k), none⟩ = some v
      rw [← Nat.add_assoc, (hc i hi).2 k hk]
      exact hj
    · have hjl : j < len * n := by rw [← hvl len (Nat.le_refl _)]; exact (List.getElem?_eq_some_iff.1 h2).1
      obtain ⟨i, k, hi, hk, rfl⟩ := split j hjl
      rw [hvg len (Nat.le_refl _) i k hi hk] at h2
      rw [flatGet hsz (hget i hi) hk, elOf_cells (hr i hi).1] at h1
      exact (hr i hi).2.2 k c v h1 h2

theorem mapM_get {α β : Type} {f : α → Option β} : ∀ {l : List α} {r : List β}, l.mapM f = some r → ∀ (i : Nat) (x : α), l[i]? = some x → ∃ y, f x = some y ∧ r[i]? = some y := by
  intro l
  induction l with
  | nil => intro r _ i x h; simp at h
  | cons a l ih =>
    intro r h i x hx
    simp only [List.mapM_cons, Option.pure_def, Option.bind_eq_bind, Option.bind_eq_some_iff] at h
    obtain ⟨y, hy, r', hr', h⟩ := h
    cases h
    cases i with
    | zero => simp at hx; subst hx; exact ⟨y, hy, rfl⟩
    | succ i => simpa using ih hr' i x (by simpa using hx)

theorem mapM_len {α β : Type} {f : α → Option β} : ∀ {l : List α} {r : List β}, l.mapM f = some r → r.length = l.length := by
  intro l
  induction l with
  | nil => intro r h; simp at h; subst h; rfl
  | cons a l ih =>
    intro r h
    simp only [List.mapM_cons, Option.pure_def, Option.bind_eq_bind, Option.bind_eq_some_iff] at h
    obtain ⟨y, hy, r', hr', h⟩ := h
    cases h
    simp [ih hr']
theorem trod_bool_inv {fuel : Nat} {t : TypeId} {cs : List Value} {x : DataW H × List MemPlace} (ht : P.underlying t = some .bool) (h : DataW.trod enc P w base sp held (fuel + 1) t cs = some x) : ∃ b, cs = [.bool b] := by
  simp only [DataW.trod, ht] at h
  split at h
  all_goals first | exact ⟨_, rfl⟩ | (exfalso; simp_all; done)

theorem trod_int_inv {fuel : Nat} {t : TypeId} {k : IntKind} {cs : List Value} {x : DataW H × List MemPlace} (ht : P.underlying t = some (.int k)) (h : DataW.trod enc P w base sp held (fuel + 1) t cs = some x) : ∃ n, cs = [.int k n] ∧ (Lit.int k n).wf = true := by
  simp only [DataW.trod, ht] at h
  split at h
  case h_2 =>
    rename_i k1 k2 n heq
    cases heq
    split at h
    · rename_i hk; exact ⟨n, by rw [hk.1], hk.2⟩
    · cases h
  all_goals (exfalso; simp_all; done)

theorem trod_str_inv {fuel : Nat} {t : TypeId} {cs : List Value} {x : DataW H × List MemPlace} (ht : P.underlying t = some .string) (h : DataW.trod enc P w base sp held (fuel + 1) t cs = some x) : ∃ s : ByteArray, cs = [.string s] ∧ s.size ≤ maxLen ∧ x.1 = .lit (.string s.data.toList) := by
  simp only [DataW.trod, ht] at h
  split at h
  case h_4 =>
    split at h
    · rename_i hk; cases h; exact ⟨_, rfl, hk, rfl⟩
    · cases h
  all_goals (exfalso; simp_all; done)

theorem trod_slice_inv {fuel : Nat} {t e : TypeId} {cs : List Value} {x : DataW H × List MemPlace} (ht : P.underlying t = some (.slice e)) (h : DataW.trod enc P w base sp held (fuel + 1) t cs = some x) :
    cs = [.slice none 0 0] ∨ ∃ a len cap elems, cs = [.slice (some a) len cap] ∧ len ≤ cap ∧ cap ≤ maxLen ∧ (List.range len).mapM (fun i => (w.cells? base (a.add (i * P.cellsOf e)) (P.cellsOf e)).bind (DataW.trod enc P w base sp held fuel e)) = some elems ∧ ∃ r, x.1 = .slice (elems.map (·.1)) r := by
  simp only [DataW.trod, ht] at h
  split at h
  case h_7 => exact .inl rfl
  case h_8 =>
    rename_i e' a len cap heq
    cases heq
    split at h
    · rename_i hk
      rw [Option.bind_eq_some_iff] at h
      obtain ⟨elems, h1, h2⟩ := h
      rw [Option.map_eq_some_iff] at h2
      obtain ⟨rest, _, h3⟩ := h2
      exact .inr ⟨a, len, cap, elems, rfl, hk.2.1, hk.2.2, h1, _, by rw [← h3]⟩
    · cases h
  all_goals (exfalso; simp_all; done)

theorem trod_struct_inv {fuel : Nat} {t : TypeId} {fs : Array Field} {cs : List Value} {x : DataW H × List MemPlace} (ht : P.underlying t = some (.struct fs)) (h : DataW.trod enc P w base sp held (fuel + 1) t cs = some x) :
    cs.length = P.cellsOf t ∧ ∃ xs, fs.toList.mapM (fun f => DataW.trod enc P w base sp held fuel f.type ((cs.drop f.offset).take (P.cellsOf f.type))) = some xs ∧ x.1 = .agg (xs.map (·.1)) := by
  simp only [DataW.trod, ht] at h
  split at h
  case isTrue =>
    rename_i hl
    rw [Option.map_eq_some_iff] at h
    obtain ⟨xs, h1, h2⟩ := h
    exact ⟨hl, xs, h1, by rw [← h2]⟩
  all_goals (exfalso; simp_all; done)

theorem bulkD_pos (d : DataW H) : 1 ≤ bulkD d := by cases d <;> (try (rename_i l; cases l)) <;> simp only [bulkD] <;> omega
theorem vszs_append (a b : List V) : vszs (a ++ b) = vszs a + vszs b := by
  induction a with
  | nil => simp [vszs]
  | cons x r ih => simp only [List.cons_append, vszs, ih]; omega
theorem vszs_range {len : Nat} {f : Nat → V} {ds : List (DataW H)} (hl : ds.length = len) (h : ∀ i d, ds[i]? = some d → vsz (f i) ≤ bulkD d) : vszs ((List.range len).map f) ≤ bulkDs ds := by
  induction ds generalizing len f with
  | nil => subst hl; simp [vszs, bulkDs]
  | cons d ds ih =>
    subst hl
    rw [List.length_cons, List.range_succ_eq_map, List.map_cons, List.map_map]
    have h0 := h 0 d rfl
    have h1 := ih (len := ds.length) (f := f ∘ Nat.succ) rfl (fun i e he => h (i + 1) e (by simpa using he))
    simp only [vszs, bulkDs]
    omega

theorem rep_of_trod : ∀ (fuel d : Nat) (t : TypeId) (cs : List Value) (x : DataW H × List MemPlace), plainT P d t = true → DataW.trod enc P w base sp held fuel t cs = some x →
    ∃ vs, TyL P d t vs ∧ Pw (Rep (allFz w G)) vs cs ∧ vs.length = P.cellsOf t ∧ vszs vs ≤ bulkD x.1 ∧ vsz (elOf P t vs) ≤ bulkD x.1 := by
  intro fuel
  induction fuel with
  | zero => intro d t cs x _ h; simp [DataW.trod] at h
  | succ fuel ih =>
    intro d t cs x hp h
    cases d with
    | zero => simp [plainT] at hp
    | succ d =>
      simp only [plainT] at hp
      simp only [TyL]
      split at hp
      · rename_i hu
        have hc := cellsOf_size (by simpa using hp : sizeT P t = some 1)
        obtain ⟨b, rfl⟩ := trod_bool_inv hu h
        exact ⟨[.bool b], ⟨b, rfl⟩, Pw.cons (.bool b) Pw.nil, by rw [hc]; rfl, bulkD_pos _, by unfold elOf; rw [if_neg (by simp [aggT, hu])]; exact bulkD_pos _⟩
      · rename_i k hu
        have hc := cellsOf_size (by simpa using hp : sizeT P t = some 1)
        obtain ⟨n, rfl, hw⟩ := trod_int_inv hu h
        exact ⟨[.int k n], ⟨n, rfl, hw⟩, Pw.cons (.int k n) Pw.nil, by rw [hc]; rfl, bulkD_pos _, by unfold elOf; rw [if_neg (by simp [aggT, hu])]; exact bulkD_pos _⟩
      · rename_i hu
        have hc := cellsOf_size (by simpa using hp : sizeT P t = some 1)
        obtain ⟨s, rfl, hl, hx⟩ := trod_str_inv hu h
        have hs : s = ⟨s.data.toList.toArray⟩ := by obtain ⟨⟨l⟩⟩ := s; rfl
        have hb : vsz (V.str s.data.toList) ≤ bulkD x.1 := by rw [hx]; exact Nat.le_refl _
        refine ⟨[.str s.data.toList], ⟨_, rfl, ?_⟩, Pw.cons ?_ Pw.nil, by rw [hc]; rfl, by simpa [vszs] using hb, by unfold elOf; rw [if_neg (by simp [aggT, hu])]; exact hb⟩
        · have : s.data.toList.length = s.size := Array.length_toList
          rw [this]; exact hl
        · have h1 := Rep.str (S := allFz w G) s.data.toList
          rw [← hs] at h1
          exact h1
      · rename_i e hu
        simp only [Bool.and_eq_true, beq_iff_eq, decide_eq_true_eq] at hp
        obtain ⟨⟨hsz, hn⟩, hpe⟩ := hp
        have hc := cellsOf_size hsz
        have hag : ∀ v : V, elOf P t [v] = v := fun v => by unfold elOf; rw [if_neg (by simp [aggT, hu])]; rfl
        rcases trod_slice_inv hu h with rfl | ⟨a, len, cap, elems, rfl, hlc, hcm, hel, rr, hx1⟩
        · exact ⟨[.nils], ⟨none, rfl, fun xs h => by cases h⟩, Pw.cons .nils Pw.nil, by rw [hc]; rfl, bulkD_pos _, by rw [hag]; exact bulkD_pos _⟩
        · rcases Nat.eq_zero_or_pos len with rfl | hlen
          · exact ⟨[.list []], ⟨some [], rfl, fun xs h => by cases h; exact ⟨by simp, fun x hx => by cases hx⟩⟩, Pw.cons (.list0 (some a) cap) Pw.nil, by rw [hc]; rfl, bulkD_pos _, by rw [hag]; exact bulkD_pos _⟩
          · have each : ∀ i, i < len → ∃ ci vi, ci.length = P.cellsOf e ∧ (∀ k, k < P.cellsOf e → w.cell? ((a.add (i * P.cellsOf e)).add k) = ci[k]?) ∧ (TyL P d e vi ∧ ∀ y, elems[i]? = some y → vsz (elOf P e vi) ≤ bulkD y.1) ∧ Pw (Rep (allFz w G)) vi ci := by
              intro i hi
              obtain ⟨y, hy, hye⟩ := mapM_get hel i i (by simp [hi])
              rw [Option.bind_eq_some_iff] at hy
              obtain ⟨ci, h1, h2⟩ := hy
              obtain ⟨_, h3, h4⟩ := World.cells?_some h1
              obtain ⟨vi, q1, q2, q3, _, q5⟩ := ih d e ci y hpe h2
              exact ⟨ci, vi, h3, h4, ⟨q1, fun y' hy' => by rw [hye] at hy'; cases hy'; exact q5⟩, q2⟩
            have hspot : a.spot = none := by
              obtain ⟨ci, vi, h1, h2, _⟩ := each 0 hlen
              have h3 := h2 0 hn
              simp only [Nat.zero_mul, Addr.add, if_true] at h3
              have h4 : ci[0]? = some (ci[0]'(by omega)) := List.getElem?_eq_getElem _
              rw [h4] at h3
              unfold World.cell? at h3
              split at h3
              · split at h3
                · cases h3
                · rename_i hsp; simpa using hsp
              · cases h3
            obtain ⟨b, o, spot⟩ := a
            simp only at hspot
            subst hspot
            have hadd : ∀ m, (Addr.mk b o none).add m = ⟨b, o + m, none⟩ := fun m => by
              unfold Addr.add; split
              · rename_i h0; subst h0; rfl
              · rfl
            have each2 : ∀ i, i < len → ∃ ci vi, ci.length = P.cellsOf e ∧ (∀ k, k < P.cellsOf e → w.cell? ⟨b, o + i * P.cellsOf e + k, none⟩ = ci[k]?) ∧ (TyL P d e vi ∧ ∀ y, elems[i]? = some y → vsz (elOf P e vi) ≤ bulkD y.1) ∧ Pw (Rep (allFz w G)) vi ci := fun i hi => by
              obtain ⟨ci, vi, q1, q2, q3, q4⟩ := each i hi
              refine ⟨ci, vi, q1, fun k hk => ?_, q3, q4⟩
              rw [← q2 k hk, hadd]
              have : (Addr.mk b (o + i * P.cellsOf e) none).add k = ⟨b, o + i * P.cellsOf e + k, none⟩ := by
                unfold Addr.add; split
                · rename_i h0; subst h0; rfl
                · rfl
              rw [this]
            let ci := fun i => if h : i < len then (each2 i h).choose else []
            let vi := fun i => if h : i < len then (each2 i h).choose_spec.choose else []
            have hci : ∀ i, i < len → (ci i).length = P.cellsOf e ∧ (∀ k, k < P.cellsOf e → w.cell? ⟨b, o + i * P.cellsOf e + k, none⟩ = (ci i)[k]?) ∧ (TyL P d e (vi i) ∧ ∀ y, elems[i]? = some y → vsz (elOf P e (vi i)) ≤ bulkD y.1) ∧ Pw (Rep (allFz w G)) (vi i) (ci i) := fun i hi => by
              have := (each2 i hi).choose_spec.choose_spec
              simp only [ci, vi, dif_pos hi]
              exact this
            obtain ⟨xs, hx1', hx2, hx3, hx4⟩ := rep_slice (P := P) (G := G) (e := e) (d := d) (b := b) (o := o) (len := len) (cap := cap) (cells := ci) (vss := vi) hn hlc (fun i hi => ⟨(hci i hi).1, (hci i hi).2.1⟩) (fun i hi => ⟨(hci i hi).2.2.1.1, (hci i hi).2.2.2⟩)
            have hel2 : elems.length = len := by rw [mapM_len hel, List.length_range]
            have hb : vsz (V.list xs) ≤ bulkD x.1 := by
              have := vszs_range (ds := elems.map (·.1)) (len := len) (f := fun i => elOf P e (vi i)) (by rw [List.length_map, hel2]) (fun i dd hd => by
                rw [List.getElem?_map] at hd
                obtain ⟨y, hy, rfl⟩ := Option.map_eq_some_iff.1 hd
                exact (hci i (by rw [← hel2]; exact (List.getElem?_eq_some_iff.1 hy).1)).2.2.1.2 y hy)
              rw [hx1, hx4]
              simp only [vsz, vszO, bulkD]
              omega
            refine ⟨[.list xs], ⟨some xs, rfl, fun ys h => ?_⟩, Pw.cons hx3 Pw.nil, by rw [hc]; rfl, by simpa [vszs] using hb, by rw [hag]; exact hb⟩
            cases h
            refine ⟨?_, hx2⟩
            have : maxLen = 9223372036854775807 := rfl
            omega
      · rename_i fs hu
        simp only [Bool.and_eq_true, beq_iff_eq, List.all_eq_true] at hp
        obtain ⟨⟨hti, hsome⟩, hall⟩ := hp
        obtain ⟨n, hn⟩ := Option.isSome_iff_exists.1 hsome
        have hc := cellsOf_size hn
        rw [hn] at hti
        obtain ⟨hl, xs, hxs, hx1⟩ := trod_struct_inv hu h
        have go : ∀ (fl : List Field) (o : Nat) (xs : List (DataW H × List MemPlace)), (∀ f ∈ fl, plainT P d f.type = true) → tiles P fl o = some n → fl.mapM (fun f => DataW.trod enc P w base sp held fuel f.type ((cs.drop f.offset).take (P.cellsOf f.type))) = some xs →
            ∃ vs, TyFs (TyL P d) fl vs ∧ Pw (Rep (allFz w G)) vs (cs.drop o) ∧ vszs vs ≤ bulkDs (xs.map (·.1)) := by
          intro fl
          induction fl with
          | nil =>
            intro o xs _ ht _
            simp only [tiles, Option.some.injEq] at ht
            subst ht
            refine ⟨[], rfl, ?_, Nat.zero_le _⟩
            rw [List.drop_of_length_le (by omega)]
            exact Pw.nil
          | cons f fl ihf =>
            intro o xs hpl ht hm
            simp only [tiles] at ht
            split at ht
            · rename_i m hm'
              split at ht
              · rename_i ho
                simp only [List.mapM_cons, Option.pure_def, Option.bind_eq_bind, Option.bind_eq_some_iff] at hm
                obtain ⟨y, hy, r', hr', hxe⟩ := hm
                cases hxe
                have hcm := cellsOf_size hm'
                rw [ho, hcm] at hy
                obtain ⟨v1, q1, q2, q3, q3', _⟩ := ih d f.type _ y (hpl f (List.mem_cons_self ..)) hy
                obtain ⟨v2, q4, q5, q6⟩ := ihf (o + m) r' (fun g hg => hpl g (List.mem_cons_of_mem _ hg)) ht hr'
                refine ⟨v1 ++ v2, ⟨v1, v2, rfl, q1, q4⟩, ?_, by rw [vszs_append]; simp only [List.map_cons, bulkDs]; omega⟩
                have : cs.drop o = (cs.drop o).take m ++ cs.drop (o + m) := by
                  rw [← List.drop_drop, List.take_append_drop]
                rw [this]
                exact Pw.append q2 q5
              · cases ht
            · cases ht
        obtain ⟨vs, q1, q2, q3⟩ := go fs.toList 0 xs hall hti hxs
        rw [List.drop_zero] at q2
        exact ⟨vs, q1, q2, by rw [q2.1, hl], by rw [hx1]; simp only [bulkD]; omega, by
          unfold elOf
          rw [if_pos (by simp [aggT, hu]), hx1]
          simp only [vsz, bulkD]; omega⟩
      · cases hp

/-- All arguments of plain data. -/
theorem reps_of_trodAll (d : Nat) : ∀ (ts : List TypeId) (vs : List Value) (ds : List (DataW H)) (ps : List MemPlace), (∀ t ∈ ts, plainT P d t = true) → DataW.TrodAll enc P w base sp held ts vs ds ps →
    (∀ v ∈ vs, ∀ cs, v ≠ .tuple cs) → ∃ as : List (List V), as.length = ts.length ∧ ∀ (j : Nat) t v, ts[j]? = some t → vs[j]? = some v → ∃ a, as[j]? = some a ∧ TyL P d t a ∧ Pw (Rep (allFz w G)) a v.cells.toList := by
  intro ts
  induction ts with
  | nil => intro vs ds ps _ _ _; exact ⟨[], rfl, fun j t v h => by simp at h⟩
  | cons t ts ih =>
    intro vs ds ps hp h hv
    cases vs with
    | nil => exact h.elim
    | cons v vs =>
      cases ds with
      | nil => exact h.elim
      | cons dd ds =>
        obtain ⟨p, q, ⟨fuel, h1⟩, h2, _⟩ := h
        obtain ⟨a, q1, q2, q3, _⟩ := rep_of_trod (G := G) fuel d t _ _ (hp t (List.mem_cons_self ..)) h1
        obtain ⟨as, r1, r2⟩ := ih vs ds q (fun t ht => hp t (List.mem_cons_of_mem _ ht)) h2 (fun v hv' => hv v (List.mem_cons_of_mem _ hv'))
        refine ⟨a :: as, by simp [r1], fun j t' v' ht hv' => ?_⟩
        cases j with
        | zero => simp at ht hv'; subst ht hv'; exact ⟨a, rfl, q1, q2⟩
        | succ j => simpa using r2 j t' v' (by simpa using ht) (by simpa using hv')
end
end Go.Ev
