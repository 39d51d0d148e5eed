/- Code: regions in their order, loops, functions. -/
import Derived.Test.YtmlhdhndjgdoaaaGreatDoorCuOps
namespace Go.Ev

/-! ### Frames -/
structure FrameSim (S : Fz) (σ : Locs) (fr : List SV) (a : Act) : Prop where
  rel : ∀ t, relS S σ (nth fr t) (a.tmps.getD t undef)
  len : fr.length ≤ a.tmps.size
  defers : a.defers = []

theorem nth_eq (fr : List SV) (t : Nat) : nth fr t = fr.getD t .undef := by
  induction fr generalizing t with
  | nil => simp [nth]
  | cons x r ih => cases t with
    | zero => simp [nth]
    | succ t => simp [nth, ih]

section
variable {P : Program} {S S' : Fz} {σ σ' : Locs} {fr : List SV} {a : Act}

theorem FrameSim.mono (h : FrameSim S σ fr a) (hs : S.le S') (hσ : Locs.le σ σ') : FrameSim S' σ' fr a := ⟨fun t => relS.mono hs hσ (h.rel t), h.len, h.defers⟩

theorem put_length (fr : List SV) (d : Option Nat) (x : SV) : (put fr d x).length = fr.length := by cases d <;> simp [put]

theorem FrameSim.put (h : FrameSim S σ fr a) (d : Option Nat) {x : SV} {v : Value} (hx : relS S σ x v) : FrameSim S σ (put fr d x) (a.put d v) := by
  refine ⟨fun t => ?_, by rw [put_length]; cases d <;> simp [Act.put] <;> exact h.len, by cases d <;> simp [Act.put] <;> exact h.defers⟩
  cases d with
  | none => exact h.rel t
  | some d =>
    rw [nth_eq]
    show relS S σ ((fr.set d x).getD t .undef) ((a.tmps.setIfInBounds d v).getD t undef)
    have hr := h.rel t
    rw [nth_eq] at hr
    by_cases hd : d = t
    · subst hd
      by_cases hl : d < fr.length
      · have hl2 : d < a.tmps.size := Nat.lt_of_lt_of_le hl h.len
        simp [hl, hl2, hx]
      · have : (fr.set d x).getD d .undef = .undef := by
          rw [List.getD_eq_getElem?_getD, List.getElem?_eq_none (by simpa using Nat.le_of_not_lt hl)]; rfl
        rw [this]
        exact trivial
    · simp only [List.getD_eq_getElem?_getD, Array.getD_eq_getD_getElem?] at hr ⊢
      rw [List.getElem?_set_ne hd, Array.getElem?_setIfInBounds_ne hd]
      exact hr

theorem FrameSim.opd (h : FrameSim S σ fr a) : ∀ x y, cOpd x = some y → relS S σ (opd fr y) (a.eval x) := by
  intro x y hxy
  cases x with
  | tmp t => simp only [cOpd, Option.some.injEq] at hxy; subst hxy; exact h.rel t
  | const v =>
    simp only [cOpd] at hxy
    split at hxy
    · rename_i z hz; cases hxy; exact ofValue_rep hz
    · cases hxy
  | func f => simp only [cOpd, Option.some.injEq] at hxy; subst hxy; exact ⟨[], [], rfl, Pw.nil, Pw.nil⟩
  | global g => simp [cOpd] at hxy

/-- The state of an evaluation is the machine's. -/
structure Sim (S : Fz) (σ : Locs) (st : St) (a : Act) (w : World) : Prop where
  heap : HeapSim S σ st.objs w
  frame : FrameSim S σ st.fr a

/-! ### Regions in their order -/
theorem cOps_drop {all : Array Oper} {o : Oper} {r : List Oper} {l : List SOper} (h : cOps P all (o :: r) = some l) : ∃ s l', l = s :: l' ∧ cOps P all r = some l' ∧ s.dst = o.dst ∧ s.op = cOpB P o.op ∧
    (match o.guard with | none => s.guard = none | some (j, want) => ∃ t, (all[j]?).bind (·.dst) = some t ∧ s.guard = some (t, want)) ∧ s.preds = (o.after.toList.filter (Region.binds .any)).map (·.on) := by
  simp only [cOps] at h
  split at h
  · rename_i l' hl
    split at h
    · rename_i hg
      cases h
      exact ⟨_, l', rfl, hl, rfl, rfl, by rw [hg], rfl⟩
    · rename_i j want hg
      split at h
      · rename_i t ht
        cases h
        exact ⟨_, l', rfl, hl, rfl, rfl, by rw [hg]; exact ⟨t, ht, rfl⟩, rfl⟩
      · cases h
  · cases h

theorem wants_ok {ops : Array Oper} {o : Oper} {g : Option (Nat × Bool)} {b : Bool} (h : FrameSim S σ fr a) (hg : match o.guard with | none => g = none | some (j, want) => ∃ t, (ops[j]?).bind (·.dst) = some t ∧ g = some (t, want)) (hw : wants fr g = some b) :
    Region.wanted o (yielded ops a.tmps) = b := by
  unfold Region.wanted
  cases hog : o.guard with
  | none =>
    rw [hog] at hg
    simp only at hg
    subst hg
    simp [wants] at hw
    simp [← hw]
  | some p =>
    obtain ⟨j, want⟩ := p
    rw [hog] at hg
    obtain ⟨t, ht, rfl⟩ := hg
    simp only [wants] at hw
    have hr := h.rel t
    simp only [yielded, ht, Option.bind_some]
    split at hw
    · rename_i c hc
      rw [hc] at hr
      have hr : Rep S (.bool c) (a.tmps.getD t undef) := hr
      generalize hv : a.tmps.getD t undef = v at hr
      cases hr
      have : a.tmps[t]? = some (.bool c) := by
        rw [Array.getD_eq_getD_getElem?] at hv
        cases hq : a.tmps[t]? with
        | none => rw [hq] at hv; simp [undef] at hv
        | some u => rw [hq] at hv; simp at hv; rw [hv]
      rw [this]
      simp only [Option.some.injEq] at hw
      rw [← hw]
      cases c <;> cases want <;> rfl
    · rename_i hc
      rw [hc] at hr
      have hr : Rep S (.tup []) (a.tmps.getD t undef) := hr
      generalize hv : a.tmps.getD t undef = v at hr
      cases hr
      rename_i vs _ hl
      cases hw
      rw [Array.getD_eq_getD_getElem?] at hv
      cases hq : a.tmps[t]? with
      | none => rfl
      | some u => rw [hq] at hv; simp at hv; subst hv; rfl
    · cases hw

variable {mm : Bool} {call : CallT} {n0 : Nat} {G : Globs}

/-- What a piece of code leaves. -/
def Left (n0 : Nat) (os : Objs) (σ : Locs) (S : Fz) (w : World) (st' : St) (a' : Act) (w' : World) : Prop := ∃ S' σ', Sim S' σ' st' a' w' ∧ Fr n0 os σ S w st'.objs σ' S' w'

theorem Left.trans {os os1 : Objs} {σ1 : Locs} {S1 : Fz} {w w1 w' : World} {st' : St} {a' : Act} (h : Fr n0 os σ S w os1 σ1 S1 w1) (k : Left n0 os1 σ1 S1 w1 st' a' w') : Left n0 os σ S w st' a' w' := by
  obtain ⟨S', σ', h1, h2⟩ := k
  exact ⟨S', σ', h1, h.trans h2⟩

theorem void_undef : relS S σ .void undef := Rep.mk_tup (vs := []) Pw.nil

theorem ops_ok (hcall : CallOK P G call) {ops : Array Oper} {Q : Exit → Act → World → Prop} : ∀ (rest : List Oper) (l : List SOper) (i : Nat) (st st' : St) (S : Fz) (σ : Locs) (a : Act) (w : World), ops.toList.drop i = rest → cOps P ops rest = some l → evOps mm call l st = some st' →
    S.g = G → Sim S σ st a w → n0 ≤ st.objs.length → (∀ a' w', Left n0 st.objs σ S w st' a' w' → Q .normal a' w') → wpOps P ops Q (List.range' i rest.length) a w := by
  intro rest
  induction rest with
  | nil =>
    intro l i st st' S σ a w _ hl he hG hs hn hQ
    simp only [cOps, Option.some.injEq] at hl
    subst hl
    simp only [evOps, Option.some.injEq] at he
    subst he
    exact hQ a w ⟨S, σ, hs, .refl hn⟩
  | cons o r ih =>
    intro l i st st' S σ a w hd hl he hG hs hn hQ
    obtain ⟨s, l', rfl, hl', h1, h2, h3, h4⟩ := cOps_drop hl
    have hlt : i < ops.toList.length := by
      rcases Nat.lt_or_ge i ops.toList.length with h | h
      · exact h
      · rw [List.drop_eq_nil_of_le h] at hd; cases hd
    have hoi : ops[i]? = some o := by
      have := congrArg (fun l => l[0]?) hd
      simp [List.getElem?_drop] at this
      simpa using this
    have hdr : ops.toList.drop (i + 1) = r := by
      have := congrArg List.tail hd
      simpa [List.tail_drop] using this
    simp only [List.length_cons, List.range'_succ, wpOps, hoi]
    simp only [evOps] at he
    split at he
    · rename_i hw
      rw [if_pos (wants_ok hs.frame h3 hw)]
      split at he
      · rename_i y hy
        rw [h2] at hy
        refine .inl ((ok_op hs.frame.opd hs.heap hG hcall hy).wp fun v w' hp => ?_)
        obtain ⟨S1, σ1, k1, k2, k3⟩ := hp
        have hle : Locs.le σ σ1 := fun j L hj => by
          have : j < st.objs.length := by
            rcases Nat.lt_or_ge j st.objs.length with h | h
            · exact h
            · rw [hs.heap.fit j h] at hj; cases hj
          rw [k3.loc j this]; exact hj
        rw [h1] at he
        refine ih l' (i + 1) _ st' S1 σ1 _ w' hdr hl' he (k3.le.g.trans hG) ⟨k1, (hs.frame.mono k3.le hle).put o.dst k2⟩ (Nat.le_trans hn k3.len) fun a' w'' hL => hQ a' w'' (Left.trans (k3.mono hn) hL)
      · cases he
    · rename_i hw
      have hww := wants_ok hs.frame h3 hw
      rw [if_neg (by simp [hww])]
      rw [h1] at he
      exact ih l' (i + 1) _ st' S σ _ w hdr hl' he hG ⟨hs.heap, hs.frame.put o.dst void_undef⟩ hn hQ
    · cases he

end
end Go.Ev
