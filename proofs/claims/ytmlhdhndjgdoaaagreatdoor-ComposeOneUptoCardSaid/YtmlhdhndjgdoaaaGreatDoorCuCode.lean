/- Code. -/
import Derived.Test.YtmlhdhndjgdoaaaGreatDoorCuCanon
namespace Go.Ev

def strip : SC → SC
  | .seq a b => .seq (strip a) (strip b)
  | .cond c a b => .cond c (strip a) (strip b)
  | .block id b => .block id (strip b)
  | .loop _ b => .loop [] (strip b)
  | .exit id _ => .exit id none
  | .ret _ => .ret none
  | c => c

theorem strip_annot (retL : List Nat) : ∀ (c : SC) (inl : Option (List Nat)) (out : List Nat) (env : List (Nat × List Nat)), strip (annot retL inl c out env) = strip c := by
  intro c
  induction c with
  | seq a b ia ib => intro inl out env; simp [annot, strip, ia, ib]
  | cond c a b ia ib => intro inl out env; simp [annot, strip, ia, ib]
  | block id b ib => intro inl out env; simp [annot, strip, ib]
  | loop l b ib => intro inl out env; simp [annot, strip, ib]
  | exit id l => intro inl out env; simp [annot, strip]
  | ret l => intro inl out env; simp [annot, strip]
  | _ => intro inl out env; simp [annot]

theorem strip_cCode (P : Program) : ∀ c : Code, strip (cCode P c) = cCode P c := by
  intro c
  induction c with
  | seq a b ia ib => simp [cCode, strip, ia, ib]
  | cond c a b ia ib => simp only [cCode]; split <;> simp [strip, ia, ib]
  | block id b ib => simp [cCode, strip, ib]
  | loop b ib => simp [cCode, strip, ib]
  | region id ops d => simp only [cCode]; split <;> rfl
  | _ => rfl

def X.exit : X → Exit
  | .n => .normal
  | .ret => .ret
  | .ex j => .exit j

section
variable {P : Program} {mm : Bool} {call : CallT} {F n0 : Nat} {G : Globs}

/-- Where code ends. -/
def CodeQ (n0 : Nat) (os : Objs) (σ : Locs) (S : Fz) (w : World) (x : X) (st' : St) (e : Exit) (a' : Act) (w' : World) : Prop := e = x.exit ∧ n0 ≤ st'.objs.length ∧ Left n0 os σ S w st' a' w'

def RegionOK (P : Program) (G : Globs) (mm : Bool) (call : CallT) (n0 : Nat) : Prop :=
  ∀ (id : Nat) (ops : Array Oper) (draw : Bool) (l : List SOper) (st st' : St) (S : Fz) (σ : Locs) (a : Act) (w : World), cOps P ops ops.toList = some l → evRegion mm call l draw st = some st' → S.g = G → Sim S σ st a w → n0 ≤ st.objs.length →
    (Code.region id ops draw).wp P (CodeQ n0 st.objs σ S w .n st') a w

theorem Left.len {os : Objs} {σ : Locs} {S : Fz} {w : World} {st' : St} {a' : Act} {w' : World} (h : Left n0 os σ S w st' a' w') : n0 ≤ st'.objs.length := by
  obtain ⟨_, _, _, h⟩ := h
  exact h.len

theorem wp_loop_fuel {c : Code} {Q : Exit → Act → World → Prop} {a : Act} {w : World} (n : Nat) (I : Nat → Act → World → Prop) (h0 : I n a w)
    (round : ∀ n a w, I n a w → c.wp P (Exit.then (fun a' w' => ∃ m, m < n ∧ I m a' w') Q) a w) : (Code.loop c).wp P Q a w := by
  intro b k cs
  have key : ∀ n a w, I n a w → ∃ e a' w', Q e a' w' ∧ Arrives P (lone (b.at a (.code c :: .inLoop c :: k)) cs w) b k cs e a' w' := by
    intro n
    induction n using Nat.strongRecOn with
    | _ n ih =>
      intro a w hI
      obtain ⟨e, a₁, w₁, hq, harr⟩ := round n a w hI b (.inLoop c :: k) cs
      cases e with
      | normal =>
        obtain ⟨m, hm, hI1⟩ := hq
        obtain ⟨e₂, a₂, w₂, hq₂, harr₂⟩ := ih m hm a₁ w₁ hI1
        exact ⟨e₂, a₂, w₂, hq₂, .of_steps (Steps.trans harr (.one step_inLoop)) harr₂⟩
      | exit id => exact ⟨_, a₁, w₁, hq, .pass (x := .inLoop c) rfl (fun _ _ => .inl (by simp)) harr⟩
      | goto l => exact ⟨_, a₁, w₁, hq, .pass (x := .inLoop c) rfl (fun _ _ => .inl (by simp)) harr⟩
      | ret => exact ⟨_, a₁, w₁, hq, .pass (x := .inLoop c) rfl (fun _ _ => .inl (by simp)) harr⟩
      | panic ch => exact ⟨_, a₁, w₁, hq, .pass (x := .inLoop c) rfl (fun _ _ => .inl (by simp)) harr⟩
      | outgrown => exact ⟨_, a₁, w₁, hq, .pass (x := .inLoop c) rfl (fun _ _ => .inl (by simp)) harr⟩
  obtain ⟨e, a', w', hq, harr⟩ := key n a w h0
  exact ⟨e, a', w', hq, .of_steps (.one step_loop) harr⟩

theorem tidy_ok (l : Option (List Nat)) {S : Fz} {σ : Locs} {st : St} {a : Act} {w : World} (hs : Sim S σ st a w) (hn : n0 ≤ st.objs.length) : n0 ≤ (tidy n0 l st).objs.length ∧ Left n0 st.objs σ S w (tidy n0 l st) a w := by
  cases l with
  | none => exact ⟨hn, S, σ, hs, .refl hn⟩
  | some live =>
    obtain ⟨⟨S2, σ2, q1, q2⟩, hcn⟩ := canon_ok (n0 := n0) live hs
    exact ⟨hcn, S2, σ2, q1, q2⟩

theorem code_ok (hreg : RegionOK P G mm call n0) : ∀ (c : Code) (sc : SC) (st st' : St) (x : X) (S : Fz) (σ : Locs) (a : Act) (w : World), strip sc = cCode P c → evCode mm call F n0 sc st = some (x, st') → S.g = G → Sim S σ st a w → n0 ≤ st.objs.length →
    c.wp P (CodeQ n0 st.objs σ S w x st') a w := by
  intro c
  induction c with
  | skip =>
    intro sc st st' x S σ a w hc he hG hs hn
    cases sc <;> simp [strip, cCode] at hc
    simp only [evCode, Option.some.injEq, Prod.mk.injEq] at he
    obtain ⟨rfl, rfl⟩ := he
    exact wp_skip ⟨rfl, hn, S, σ, hs, .refl hn⟩
  | region id ops draw =>
    intro sc st st' x S σ a w hc he hG hs hn
    simp only [cCode] at hc
    split at hc
    · rename_i l hl
      cases sc <;> simp [strip] at hc
      rename_i sl sd
      obtain ⟨rfl, rfl⟩ := hc
      simp only [evCode] at he
      split at he
      · rename_i st1 hr
        simp only [Option.some.injEq, Prod.mk.injEq] at he
        obtain ⟨rfl, rfl⟩ := he
        exact hreg id ops sd sl st st1 S σ a w hl hr hG hs hn
      · cases he
    · cases sc <;> simp [strip] at hc
      simp [evCode] at he
  | seq c1 c2 i1 i2 =>
    intro sc st st' x S σ a w hc he hG hs hn
    cases sc <;> simp [strip, cCode] at hc
    rename_i s1 s2
    simp only [evCode] at he
    split at he
    · rename_i st1 h1
      refine wp_seq (wp_mono (i1 s1 st st1 .n S σ a w hc.1 h1 hG hs hn) fun e a' w' hq => ?_)
      obtain ⟨rfl, hn1, S1, σ1, k1, k2⟩ := hq
      refine wp_mono (i2 s2 st1 st' x S1 σ1 a' w' hc.2 he (k2.le.g.trans hG) k1 hn1) fun e2 a2 w2 hq2 => ?_
      exact ⟨hq2.1, hq2.2.1, Left.trans k2 hq2.2.2⟩
    · rename_i r hnn
      cases hr : evCode mm call F n0 s1 st with
      | none => rw [hr] at he; cases he
      | some p =>
        rw [hr] at he
        simp only [Option.some.injEq] at he
        subst he
        refine wp_seq (wp_mono (i1 s1 st st' x S σ a w hc.1 hr hG hs hn) fun e a' w' hq => ?_)
        obtain ⟨rfl, hq⟩ := hq
        cases x with
        | n => exact absurd hr (hnn st')
        | ret => exact ⟨rfl, hq⟩
        | ex j => exact ⟨rfl, hq⟩
  | cond c c1 c2 i1 i2 =>
    intro sc st st' x S σ a w hc he hG hs hn
    simp only [cCode] at hc
    split at hc
    · rename_i y hy
      cases sc <;> simp [strip] at hc
      rename_i y' s1 s2
      obtain ⟨rfl, h1, h2⟩ := hc
      have hr := hs.frame.opd c y' hy
      simp only [evCode] at he
      split at he
      · rename_i hb
        rw [hb] at hr
        have hr : Rep S (.bool true) (a.eval c) := hr
        generalize hv : a.eval c = v at hr
        cases hr
        exact wp_cond_true hv (i1 s1 st st' x S σ a w h1 he hG hs hn)
      · rename_i hb
        rw [hb] at hr
        have hr : Rep S (.bool false) (a.eval c) := hr
        generalize hv : a.eval c = v at hr
        cases hr
        exact wp_cond_false hv (i2 s2 st st' x S σ a w h2 he hG hs hn)
      · cases he
    · cases sc <;> simp [strip] at hc
      simp [evCode] at he
  | block id b ib =>
    intro sc st st' x S σ a w hc he hG hs hn
    cases sc <;> simp [strip, cCode] at hc
    rename_i id' s
    obtain ⟨rfl, hc⟩ := hc
    simp only [evCode] at he
    cases hr : evCode mm call F n0 s st with
    | none => rw [hr] at he; cases he
    | some p =>
      obtain ⟨y, st1⟩ := p
      rw [hr] at he
      refine wp_block (wp_mono (ib s st st1 y S σ a w hc hr hG hs hn) fun e a' w' hq => ?_)
      obtain ⟨rfl, hq⟩ := hq
      cases y with
      | n => simp at he; obtain ⟨rfl, rfl⟩ := he; exact ⟨rfl, hq⟩
      | ret => simp at he; obtain ⟨rfl, rfl⟩ := he; exact ⟨rfl, hq⟩
      | ex j =>
        simp only [Option.some.injEq, Prod.mk.injEq] at he
        obtain ⟨rfl, rfl⟩ := he
        show Exit.inBlock id' _ (.exit j) a' w'
        simp only [Exit.inBlock]
        split
        · exact ⟨rfl, hq⟩
        · exact ⟨rfl, hq⟩
  | loop b ib =>
    intro sc st st' x S σ a w hc he hG hs hn
    cases sc <;> simp [strip, cCode] at hc
    rename_i live s
    simp only [evCode] at he
    refine wp_loop_fuel F (fun k a1 w1 => ∃ S1 σ1 st1, Sim S1 σ1 st1 a1 w1 ∧ n0 ≤ st1.objs.length ∧ Fr n0 st.objs σ S w st1.objs σ1 S1 w1 ∧ evLoop (fun st => evCode mm call F n0 s (canon n0 live st)) k st1 = some (x, st')) ⟨S, σ, st, hs, hn, .refl hn, he⟩ ?_
    intro k a1 w1 hI
    obtain ⟨S1, σ1, st1, h1, h2, h3, h4⟩ := hI
    cases k with
    | zero => simp [evLoop] at h4
    | succ k =>
      simp only [evLoop] at h4
      obtain ⟨hcan, hcn⟩ := canon_ok (n0 := n0) live h1
      obtain ⟨S2, σ2, q1, q2⟩ := hcan
      cases hr : evCode mm call F n0 s (canon n0 live st1) with
      | none => rw [hr] at h4; cases h4
      | some p =>
        obtain ⟨y, st2⟩ := p
        rw [hr] at h4
        refine wp_mono (ib s _ st2 y S2 σ2 a1 w1 hc hr ((h3.trans q2).le.g.trans hG) q1 hcn) fun e a' w' hq => ?_
        obtain ⟨rfl, hn2, S3, σ3, r1, r2⟩ := hq
        have hfr := h3.trans (q2.trans r2)
        cases y with
        | n => exact ⟨k, Nat.lt_succ_self k, S3, σ3, st2, r1, hn2, hfr, h4⟩
        | ret => simp at h4; obtain ⟨rfl, rfl⟩ := h4; exact ⟨rfl, hn2, S3, σ3, r1, hfr⟩
        | ex j => simp at h4; obtain ⟨rfl, rfl⟩ := h4; exact ⟨rfl, hn2, S3, σ3, r1, hfr⟩
  | exit id =>
    intro sc st st' x S σ a w hc he hG hs hn
    cases sc <;> simp [strip, cCode] at hc
    subst hc
    simp only [evCode, Option.some.injEq, Prod.mk.injEq] at he
    obtain ⟨rfl, rfl⟩ := he
    exact wp_exit ⟨rfl, tidy_ok _ hs hn⟩
  | ret =>
    intro sc st st' x S σ a w hc he hG hs hn
    cases sc <;> simp [strip, cCode] at hc
    simp only [evCode, Option.some.injEq, Prod.mk.injEq] at he
    obtain ⟨rfl, rfl⟩ := he
    exact wp_ret ⟨rfl, tidy_ok _ hs hn⟩
  | _ =>
    intro sc st st' x S σ a w hc he hG hs hn
    cases sc <;> simp [strip, cCode] at hc
    simp [evCode] at he
end
end Go.Ev
