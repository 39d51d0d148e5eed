/- A law's row: its arguments' abstract values, what stands behind the call. -/
import Derived.Test.YtmlhdhndjgdoaaaGreatDoorCuStE
import Derived.ReadAgain
import Derived.Carry
import Derived.OpenShut
namespace Go.Ev
open Go.RowKit

section
variable {P : Program} {G : Globs} {H : Type} {enc : TypeId × Value → H} {w : World} {base : Nat} {sp : Nat → Bool} {held : Bool}

def TyTs (T : TypeId → List V → Prop) : List TypeId → List V → Prop
  | [], vs => vs = []
  | t :: r, vs => ∃ a b, vs = a ++ b ∧ T t a ∧ TyTs T r b

theorem tyFs_ts {T : TypeId → List V → Prop} : ∀ {fs : List Field} {vs : List V}, TyFs T fs vs → TyTs T (fs.map (·.type)) vs := by
  intro fs
  induction fs with
  | nil => intro vs h; exact h
  | cons f fs ih =>
    intro vs h
    obtain ⟨a, b, h1, h2, h3⟩ := h
    exact ⟨a, b, h1, h2, ih h3⟩

def structTs (P : Program) (t : TypeId) : Option (List TypeId) := match P.underlying t with
  | some (.struct fs) => some (fs.toList.map (·.type))
  | _ => none

theorem ty_struct {d : Nat} {t : TypeId} {ts : List TypeId} {vs : List V} (hs : structTs P t = some ts) (h : TyL P (d + 1) t vs) : TyTs (TyL P d) ts vs := by
  unfold structTs at hs
  split at hs
  · rename_i fs hu
    cases hs
    simp only [TyL, hu] at h
    exact tyFs_ts h
  · cases hs
theorem ty_slice {d : Nat} {t e : TypeId} {vs : List V} (hu : P.underlying t = some (.slice e)) (h : TyL P (d + 1) t vs) : ∃ o, vs = [.sl o] ∧ ∀ xs, o = some xs → xs.length ≤ 9223372036854775807 ∧ ∀ x ∈ xs, ∃ ys, x = elOf P e ys ∧ ys.length = P.cellsOf e ∧ TyL P d e ys := by
  simpa only [TyL, hu] using h
theorem ty_int {d : Nat} {t : TypeId} {k : IntKind} {vs : List V} (hu : P.underlying t = some (.int k)) (h : TyL P (d + 1) t vs) : ∃ n, vs = [.int k n] ∧ (Lit.int k n).wf = true := by
  simpa only [TyL, hu] using h
theorem ty_str {d : Nat} {t : TypeId} {vs : List V} (hu : P.underlying t = some .string) (h : TyL P (d + 1) t vs) : ∃ s, vs = [.str s] ∧ s.length ≤ 9223372036854775807 := by
  simpa only [TyL, hu] using h
theorem ty_bool {d : Nat} {t : TypeId} {vs : List V} (hu : P.underlying t = some .bool) (h : TyL P (d + 1) t vs) : ∃ b, vs = [.bool b] := by
  simpa only [TyL, hu] using h

def TyAll (P : Program) (d : Nat) : List TypeId → List (List V) → Prop
  | [], [] => True
  | t :: ts, a :: as => TyL P d t a ∧ TyAll P d ts as
  | _, _ => False

theorem ty_cons {d : Nat} {t : TypeId} {ts : List TypeId} {vss : List (List V)} (h : TyAll P d (t :: ts) vss) : ∃ a r, vss = a :: r ∧ TyL P d t a ∧ TyAll P d ts r := by
  cases vss with
  | nil => exact h.elim
  | cons a r => exact ⟨a, r, rfl, h.1, h.2⟩
theorem ty_nil {d : Nat} {vss : List (List V)} (h : TyAll P d [] vss) : vss = [] := by
  cases vss with
  | nil => rfl
  | cons a r => exact h.elim

def elOfs (P : Program) : List TypeId → List (List V) → List V
  | t :: ts, a :: as => elOf P t a :: elOfs P ts as
  | _, _ => []

theorem arg_rep {S : Fz} {r : Reach} {b0 : Nat} {d : Nat} {t : TypeId} {v : Value} {a : List V} (hok : Value.okWide P w r b0 t v) (hT : TyL P d t a) (hp : Pw (Rep S) a v.cells.toList) : Rep S (elOf P t a) v := by
  unfold elOf
  split
  · rename_i ha
    have : ∃ cs, v = .agg cs := by
      unfold Value.okWide at hok
      unfold aggT at ha
      split at ha
      · rename_i fs hu; rw [hu] at hok; obtain ⟨cs, h, _⟩ := hok; exact ⟨cs, h⟩
      · rename_i n e hu; rw [hu] at hok; obtain ⟨cs, h, _⟩ := hok; exact ⟨cs, h⟩
      · cases ha
      · cases ha
    obtain ⟨cs, rfl⟩ := this
    have h1 := Rep.agg (S := S) (cs := a) cs.toList hp.1 hp.2
    simpa using h1
  · rename_i ha
    obtain ⟨x, rfl, hx⟩ := one_of_ty hT ha
    have hv : ∀ cs, v ≠ .agg cs := by
      intro cs he
      subst he
      cases d with
      | zero => exact hT.elim
      | succ d =>
        simp only [TyL] at hT
        unfold Value.okWide at hok
        split at hT
        · rename_i hu; simp [hu, Cell.okWide, Cell.ok] at hok
        · rename_i k hu; simp [hu, Cell.okWide, Cell.ok] at hok
        · rename_i hu; simp [hu, Cell.okWide, Cell.ok] at hok
        · rename_i e hu; simp [hu, Cell.okWide, Cell.ok] at hok
        · rename_i fs hu; exact absurd (by simp [aggT, hu]) ha
        · exact hT
    have hc : v.cells.toList = [v] := by
      cases v <;> first | rfl | (exact absurd rfl (hv _))
    rw [hc] at hp
    exact hp.head

theorem args_rep {r : Reach} {b0 : Nat} (d : Nat) : ∀ (ts : List TypeId) (vs : List Value) (ds : List (DataW H)) (ps : List MemPlace), (∀ t ∈ ts, plainT P d t = true) → (∀ (j : Nat) t v, ts[j]? = some t → vs[j]? = some v → Value.okWide P w r b0 t v) → DataW.TrodAll enc P w base sp held ts vs ds ps →
    ∃ as : List (List V), TyAll P d ts as ∧ Pw (Rep (allFz w G)) (elOfs P ts as) vs ∧ ds.length = ts.length ∧ vszs (elOfs P ts as) ≤ bulkDs ds := by
  intro ts
  induction ts with
  | nil =>
    intro vs ds ps _ _ h
    cases vs with
    | nil => cases ds with
      | nil => exact ⟨[], trivial, Pw.nil, rfl, Nat.zero_le _⟩
      | cons _ _ => exact h.elim
    | cons _ _ => cases ds <;> exact h.elim
  | cons t ts ih =>
    intro vs ds ps hp hok h
    cases vs with
    | nil => exact h.elim
    | cons v vs =>
      cases ds with
      | nil => exact h.elim
      | cons dd ds =>
        obtain ⟨p, q, ⟨fuel, h1⟩, h2, _⟩ := h
        obtain ⟨a, q1, q2, q3, _, q4⟩ := rep_of_trod (G := G) fuel d t _ _ (hp t (List.mem_cons_self ..)) h1
        obtain ⟨as, r1, r2, r3, r4⟩ := ih vs ds q (fun t ht => hp t (List.mem_cons_of_mem _ ht)) (fun j t' v' ht hv => hok (j + 1) t' v' (by simpa using ht) (by simpa using hv)) h2
        exact ⟨a :: as, ⟨q1, r1⟩, Pw.cons (arg_rep (hok 0 t v rfl rfl) q1 q2) r2, by simp [r3], by simp only [elOfs, vszs, bulkDs]; simp only at q4; omega⟩

theorem trodAll_carry {w' : World} : ∀ {ts : List TypeId} {vs : List Value} {ds : List (DataW H)} {ps : List MemPlace}, DataW.TrodAll enc P w base sp held ts vs ds ps → (∀ p ∈ ps, w.sameAt w' p) → DataW.TrodAll enc P w' base sp held ts vs ds ps
  | [], [], [], _, h, _ => h
  | _ :: _, _ :: _, _ :: _, _, ⟨p, q, ⟨n, h1⟩, h2, e⟩, hs => ⟨p, q, ⟨n, DataW.trod_carry n _ _ _ h1 fun x hx => hs x (by rw [e]; exact List.mem_append_left _ hx)⟩, trodAll_carry h2 (fun x hx => hs x (by rw [e]; exact List.mem_append_right _ hx)), e⟩
end
end Go.Ev

namespace Go.ChangeShapes
open Go.RowKit
/-- A law that answers true, and leaves all that came in as it was. -/
theorem law_post {H : Type} {enc : TypeId × Value → H} {P : Program} {f : Func} {s : ChangeSpec} {W W' : World} {args : Array Value} {ds : List (DataW H)} {gs : List (DataW H)} {before : List MemPlace} {tb : TypeId}
    (hW : DataW.Whole enc P f.params.toList s.vars false W args.toList ds gs before) (K : Kids P (· < P.types.size)) (hz : ∀ t e, t < P.types.size → P.underlying t = some (.slice e) → 0 < P.cellsOf e) (hts : ∀ t ∈ f.params.toList, t < P.types.size)
    (hv : s.vars = []) (hr : f.resultTypes = #[tb]) (htb : P.underlying tb = some .bool) (hres : (s.fn H (ds ++ gs)).results = [.lit (.bool true)]) (hargs : (s.fn H (ds ++ gs)).args = ds) (hvs : (s.fn H (ds ++ gs)).vars = []) (hb : Below W.heap.size W W') :
    s.post enc P f false true false false W args (.bool true) W' := by
  have hW' := hW
  obtain ⟨p, q, hA, hV, rfl, hfz, hnd⟩ := hW
  rw [hv] at hV
  obtain ⟨rfl, rfl⟩ := trodVars_none hV
  have hlt : ∀ x ∈ p, x.block < W.heap.size := fun x hx => hW'.lt x (by simpa using hx)
  have hA2 := Go.Ev.trodAll_carry hA (fun x hx => hb.same (hlt x hx))
  refine post_of_below (pa := p) (pv := []) hW' (fun b sp hd => ?_) (fun sp hsp => ?_) (fun sp hsp => ?_) rfl hb (ok_one hr rfl (okWide_bool_mk htb _))
  · have hrl : f.resultTypes.toList = [tb] := by rw [hr]
    have hrv : Value.resultList f.resultTypes.size (.bool true) = [.bool true] := by rw [hr]; rfl
    rw [hres, hrl, hrv]
    exact trodAll_cons_mk (shut_bool htb _) trodAll_mk0
  · rw [hargs]
    exact DataW.TrodAll.respare K hz hts hA2 (fun x hx => hsp x (by simpa using hx))
  · rw [hvs, hv]; rfl
end Go.ChangeShapes
