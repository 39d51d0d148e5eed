/- Regions, shapes, code, functions, calls: staged, they answer as the evaluator's. -/
import Derived.Test.YtmlhdhndjgdoaaaDoorCuStB
namespace Go.Ev

section
variable {β : Type} {r : β} {call : CallK} {callE : CallT} {mm : Bool} {tys : List (Nat × Ty)}

theorem set_nth {x : SV} (hx : x ≠ .undef) : ∀ {fr : List SV} {t : Nat}, nth fr t = x → fr.set t x = fr := by
  intro fr
  induction fr with
  | nil => intro t h; rfl
  | cons y fr ih =>
    intro t h
    cases t with
    | zero => simp only [nth] at h; subst h; rfl
    | succ t => simp only [nth] at h; simp only [List.set_cons_succ, ih h]

theorem guardK_ok {fr : List SV} {g : Option (Nat × Bool)} {run skip : List SV → Option β} (h : guardK fr g run skip = some r) : (wants fr g = some true ∧ run fr = some r) ∨ (wants fr g = some false ∧ skip fr = some r) := by
  unfold guardK at h
  split at h
  · exact .inl ⟨rfl, h⟩
  · rename_i t want
    split at h
    · rename_i b hb
      have ht : fr.set t (.a (.v (.bool b))) = fr := set_nth (by simp) hb
      cases b <;> cases want <;> simp only [cond_true, cond_false, ht] at h
      · exact .inl ⟨by simp [wants, hb], h⟩
      · exact .inr ⟨by simp [wants, hb], h⟩
      · exact .inr ⟨by simp [wants, hb], h⟩
      · exact .inl ⟨by simp [wants, hb], h⟩
    · rename_i ht
      exact .inr ⟨by simp [wants, ht], h⟩
    · cases h

theorem stOps_ok (hc : CallsAs call callE) : ∀ {ops : List SOper} {st : St} {K : St → Option β}, stOps mm call tys ops st K = some r → ∃ st', evOps mm callE ops st = some st' ∧ K st' = some r := by
  intro ops
  induction ops with
  | nil => intro st K h; exact ⟨st, rfl, h⟩
  | cons o ops ih =>
    intro st K h
    simp only [stOps] at h
    rcases guardK_ok h with ⟨hw, h⟩ | ⟨hw, h⟩
    · obtain ⟨y, h1, h2⟩ := stOp_ok hc h
      obtain ⟨st', h3, h4⟩ := ih h2
      exact ⟨st', by simp only [evOps, hw, h1, h3], h4⟩
    · obtain ⟨st', h3, h4⟩ := ih h
      exact ⟨st', by simp only [evOps, hw, h3], h4⟩

theorem stDraw_ok (hc : CallsAs call callE) : ∀ {ops : List SOper} {st : St} {K : St → List DStep → Option β}, stDraw mm call tys ops st K = some r → ∃ st' ds, evDraw mm callE ops st = some (st', ds) ∧ K st' ds = some r := by
  intro ops
  induction ops with
  | nil => intro st K h; exact ⟨st, [], rfl, h⟩
  | cons o ops ih =>
    intro st K h
    simp only [stDraw] at h
    rcases guardK_ok h with ⟨hw, h⟩ | ⟨hw, h⟩
    · split at h
      · rename_i hall
        obtain ⟨y, h1, h2⟩ := stOp_ok hc h
        split at h2
        · rename_i hlen
          obtain ⟨st', ds, h3, h4⟩ := ih h2
          refine ⟨st', _, ?_, h4⟩
          simp only [evDraw, hw, h1]
          rw [if_pos hall, if_pos hlen, h3]
        · cases h2
      · cases h
    · obtain ⟨st', ds, h3, h4⟩ := ih h
      refine ⟨st', _, ?_, h4⟩
      simp only [evDraw, hw, h3]

theorem stRegion_ok (hc : CallsAs call callE) {ops : List SOper} {draw : Bool} {st : St} {K : St → Option β} (h : stRegion mm call tys ops draw st K = some r) : ∃ st', evRegion mm callE ops draw st = some st' ∧ K st' = some r := by
  unfold stRegion at h
  split at h
  · rename_i hd
    split at h
    · rename_i ho
      obtain ⟨st', ds, h1, h2⟩ := stDraw_ok hc h
      split at h2
      · rename_i hf
        refine ⟨st', ?_, h2⟩
        simp only [evRegion, hd, if_true]
        rw [if_pos ho, h1]
        simp only
        rw [if_pos hf]
      · cases h2
    · cases h
  · rename_i hd
    obtain ⟨st', h1, h2⟩ := stOps_ok hc h
    exact ⟨st', by simp only [evRegion, hd]; exact h1, h2⟩

/-! ### Shapes -/
def Lies (hs : List H) (i : Nat) (a : List H) : Prop := ∀ (k : Nat) (h : H), a[k]? = some h → hs[i + k]? = some h

theorem Lies.left {hs : List H} {i : Nat} {a b : List H} (h : Lies hs i (a ++ b)) : Lies hs i a := fun k x hk => h k x (by rw [List.getElem?_append_left (by have := List.getElem?_eq_some_iff.1 hk; exact this.1)]; exact hk)
theorem Lies.right {hs : List H} {i : Nat} {a b : List H} (h : Lies hs i (a ++ b)) : Lies hs (i + a.length) b := fun k x hk => by
  have := h (a.length + k) x (by rw [List.getElem?_append_right (by omega)]; simpa using hk)
  rw [← this]; congr 1; omega
theorem Lies.get {hs : List H} {i : Nat} {x : H} {a : List H} (h : Lies hs i (x :: a)) : hs.getD i default = x := by
  have := h 0 x rfl
  rw [List.getD_eq_getElem?_getD]
  simpa using congrArg (fun o => o.getD default) this

theorem unA_ok {hs : List H} {p : PA} {x : At} {a : List H} {i : Nat} {K : At → Nat → Option β} (h : pkA p x = some a) (hl : Lies hs i a) (hu : unA hs p i K = some r) : K x (i + a.length) = some r := by
  cases p with
  | h t =>
    cases x <;> simp [pkA] at h
    subst h
    simp only [unA] at hu
    have := dTy_ok hu
    simp only [hV, hl.get] at this
    exact this
  | nil =>
    cases x with
    | v v => cases v using V.cs <;> simp [pkA] at h; subst h; exact hu
    | _ => simp [pkA] at h
  | np =>
    cases x with
    | v v => cases v using V.cs <;> simp [pkA] at h; subst h; exact hu
    | _ => simp [pkA] at h
  | loc j o => cases x <;> simp [pkA] at h; obtain ⟨⟨rfl, rfl⟩, rfl⟩ := h; exact hu
  | own j => cases x <;> simp [pkA] at h; obtain ⟨rfl, rfl⟩ := h; exact hu
  | win j sz =>
    cases x with
    | win j' sz' lo n =>
      simp only [pkA] at h
      split at h
      · rename_i hc
        obtain ⟨rfl, rfl⟩ := hc
        cases h
        have h2 := Lies.get (Lies.right (a := [_]) hl)
        simp only [List.length_cons, List.length_nil, Nat.zero_add] at h2
        simp only [unA, hN, hl.get, h2] at hu
        exact hu
      · cases h
    | _ => simp [pkA] at h
  | mapr j => cases x <;> simp [pkA] at h; obtain ⟨rfl, rfl⟩ := h; exact hu
  | itr j => cases x <;> simp [pkA] at h; obtain ⟨rfl, rfl⟩ := h; exact hu

theorem unAs_ok {hs : List H} : ∀ {ps : List PA} {xs : List At} {a : List H} {i : Nat} {K : List At → Nat → Option β}, pkAs ps xs = some a → Lies hs i a → unAs hs ps i K = some r → K xs (i + a.length) = some r := by
  intro ps
  induction ps with
  | nil =>
    intro xs a i K h hl hu
    cases xs <;> simp [pkAs] at h
    subst h; exact hu
  | cons p ps ih =>
    intro xs a i K h hl hu
    cases xs with
    | nil => simp [pkAs] at h
    | cons x xs =>
      simp only [pkAs] at h
      split at h
      · rename_i a1 b1 h1 h2
        cases h
        simp only [unAs] at hu
        have h3 := unA_ok h1 hl.left hu
        have h4 := ih h2 hl.right h3
        simp only [List.length_append, ← Nat.add_assoc]
        exact h4
      · cases h

theorem unS_ok {hs : List H} {p : PS} {x : SV} {a : List H} {i : Nat} {K : SV → Nat → Option β} (h : pkS p x = some a) (hl : Lies hs i a) (hu : unS hs p i K = some r) : K x (i + a.length) = some r := by
  cases p with
  | u => cases x <;> simp [pkS] at h; subst h; exact hu
  | a p =>
    cases x <;> simp [pkS] at h
    exact unA_ok (K := fun x i => K (.a x) i) h hl hu
  | agg l =>
    cases x <;> simp [pkS] at h
    exact unAs_ok (K := fun cs i => K (.agg cs) i) h hl hu
  | clo f p q =>
    cases x <;> simp [pkS] at h
    obtain ⟨rfl, h⟩ := h
    split at h
    · rename_i y z h1 h2
      cases h
      simp only [unS] at hu
      have h3 := unAs_ok (K := fun a i => unAs hs q i fun b i => K (.clo f a b) i) h1 hl.left hu
      have h4 := unAs_ok (K := fun b i => K (.clo f _ b) i) h2 hl.right h3
      simp only [List.length_append, ← Nat.add_assoc]
      exact h4
    · cases h

theorem unFr_ok {hs : List H} : ∀ {ps : List PS} {xs : List SV} {a : List H} {i : Nat} {K : List SV → Nat → Option β}, pkFr ps xs = some a → Lies hs i a → unFr hs ps i K = some r → K xs (i + a.length) = some r := by
  intro ps
  induction ps with
  | nil =>
    intro xs a i K h hl hu
    cases xs <;> simp [pkFr] at h
    subst h; exact hu
  | cons p ps ih =>
    intro xs a i K h hl hu
    cases xs with
    | nil => simp [pkFr] at h
    | cons x xs =>
      simp only [pkFr] at h
      split at h
      · rename_i a1 b1 h1 h2
        cases h
        simp only [unFr] at hu
        have h3 := unS_ok h1 hl.left hu
        have h4 := ih h2 hl.right h3
        simp only [List.length_append, ← Nat.add_assoc]
        exact h4
      · cases h

theorem sameC_eq : ∀ {vs : List V} {cs : List At}, sameC vs cs = true → cs = vs.map At.v := by
  intro vs
  induction vs with
  | nil =>
    intro cs h
    cases cs with
    | nil => rfl
    | cons _ _ => cases h
  | cons v vs ih =>
    intro cs h
    cases cs with
    | nil => cases v <;> cases h
    | cons c cs =>
      cases c with
      | v x =>
        cases v with
        | bool a =>
          cases x with
          | bool b =>
            simp only [sameC, Bool.and_eq_true, beq_iff_eq] at h
            rw [ih h.2, h.1]; rfl
          | _ => cases h
        | int k a =>
          cases x with
          | int k' b =>
            simp only [sameC, Bool.and_eq_true, decide_eq_true_eq] at h
            rw [ih h.2, h.1.1, h.1.2]; rfl
          | _ => cases h
        | str a =>
          cases x with
          | str b =>
            simp only [sameC, Bool.and_eq_true, beq_iff_eq] at h
            rw [ih h.2, h.1]; rfl
          | _ => cases h
        | _ => cases h
      | _ => cases v <;> cases h

theorem unO_ok {hs : List H} {p : PO} {x : Option LObj} {a : List H} {i : Nat} {K : Option LObj → Nat → Option β} (h : pkO p x = some a) (hl : Lies hs i a) (hu : unO hs p i K = some r) : K x (i + a.length) = some r := by
  cases p with
  | no => cases x <;> simp [pkO] at h; subst h; exact hu
  | box ty ps =>
    cases x with
    | none => simp [pkO] at h
    | some o =>
      cases o <;> simp [pkO] at h
      obtain ⟨rfl, h⟩ := h
      exact unAs_ok (K := fun cs i => K (some (.box ty cs)) i) h hl hu
  | cbox ty vs =>
    cases x with
    | none => simp [pkO] at h
    | some o =>
      cases o <;> simp [pkO] at h
      obtain ⟨⟨rfl, hs⟩, rfl⟩ := h
      rw [sameC_eq hs]
      exact hu
  | ext e sz =>
    cases x with
    | none => simp [pkO] at h
    | some o =>
      cases o <;> simp [pkO] at h
      obtain ⟨⟨rfl, rfl⟩, rfl⟩ := h
      simp only [unO, hL, hl.get] at hu
      exact hu
  | arr e sz =>
    cases x with
    | none => simp [pkO] at h
    | some o =>
      cases o <;> simp [pkO] at h
      obtain ⟨⟨rfl, rfl⟩, rfl⟩ := h
      simp only [unO, hL, hl.get] at hu
      exact hu
  | map =>
    cases x with
    | none => simp [pkO] at h
    | some o =>
      cases o with
      | map z es =>
        cases z <;> simp [pkO] at h
        subst h
        simp only [unO, hM, hl.get] at hu
        exact hu
      | _ => simp [pkO] at h
  | iter =>
    cases x with
    | none => simp [pkO] at h
    | some o =>
      cases o <;> simp [pkO] at h
      subst h
      simp only [unO, hS, hN, hl.get] at hu
      have h2 := Lies.get (Lies.right (a := [_]) hl)
      simp only [List.length_cons, List.length_nil, Nat.zero_add] at h2
      rw [h2] at hu
      exact hu

theorem unOs_ok {hs : List H} : ∀ {ps : List PO} {xs : Objs} {a : List H} {i : Nat} {K : Objs → Nat → Option β}, pkOs ps xs = some a → Lies hs i a → unOs hs ps i K = some r → K xs (i + a.length) = some r := by
  intro ps
  induction ps with
  | nil =>
    intro xs a i K h hl hu
    cases xs <;> simp [pkOs] at h
    subst h; exact hu
  | cons p ps ih =>
    intro xs a i K h hl hu
    cases xs with
    | nil => simp [pkOs] at h
    | cons x xs =>
      simp only [pkOs] at h
      split at h
      · rename_i a1 b1 h1 h2
        cases h
        simp only [unOs] at hu
        have h3 := unO_ok h1 hl.left hu
        have h4 := ih h2 hl.right h3
        simp only [List.length_append, ← Nat.add_assoc]
        exact h4
      · cases h

theorem un_ok {sh : Shape} {hs : List H} {st : St} {f : St → Option β} (h : pk sh st = some hs) (hu : un sh hs f = some r) : f st = some r := by
  unfold pk at h
  split at h
  · rename_i a b h1 h2
    cases h
    have hl : Lies (a ++ b) 0 (a ++ b) := fun k x hk => by simpa using hk
    unfold un at hu
    have h3 := unFr_ok h1 hl.left hu
    have h4 := unOs_ok h2 hl.right h3
    exact h4
  · cases h

theorem pkAny_some : ∀ {l : List Shape} {i : Nat} {st : St} {v : Vs}, pkAny i l st = some v → ∃ j sh, v.1 = i + j ∧ l[j]? = some sh ∧ pk sh st = some v.2 := by
  intro l
  induction l with
  | nil => intro i st v h; cases h
  | cons sh l ih =>
    intro i st v h
    simp only [pkAny] at h
    split at h
    · rename_i hs hpk; cases h; exact ⟨0, sh, rfl, rfl, hpk⟩
    · obtain ⟨j, sh', h1, h2, h3⟩ := ih h
      exact ⟨j + 1, sh', by omega, h2, h3⟩

theorem same_eq {x y : X} (h : x.same y = true) : x = y := by
  cases x <;> cases y <;> simp [X.same] at h <;> first | rfl | (rw [h])

theorem pkExit_some : ∀ {l : List (X × Shape)} {i : Nat} {x : X} {st : St} {v : Vs}, pkExit i l x st = some v → ∃ j sh, v.1 = i + j ∧ l[j]? = some (x, sh) ∧ pk sh st = some v.2 := by
  intro l
  induction l with
  | nil => intro i x st v h; cases h
  | cons e l ih =>
    intro i x st v h
    obtain ⟨x', sh⟩ := e
    simp only [pkExit] at h
    split at h
    · rename_i hx
      have := same_eq hx
      subst this
      split at h
      · rename_i hs hpk; cases h; exact ⟨0, sh, rfl, rfl, hpk⟩
      · obtain ⟨j, sh', h1, h2, h3⟩ := ih h
        exact ⟨j + 1, sh', by omega, h2, h3⟩
    · obtain ⟨j, sh', h1, h2, h3⟩ := ih h
      exact ⟨j + 1, sh', by omega, h2, h3⟩

theorem sel_heads {f : St → Option β} {hs : List H} : ∀ {l : List Shape} {j : Nat} {sh : Shape}, l[j]? = some sh → sel j (heads f hs l) = un sh hs f := by
  intro l
  induction l with
  | nil => intro j sh h; simp at h
  | cons a l ih =>
    intro j sh h
    cases j with
    | zero => simp at h; subst h; rfl
    | succ j => simp only [heads, sel]; exact ih (by simpa using h)

theorem sel_exits {f : X → St → Option β} {hs : List H} : ∀ {l : List (X × Shape)} {j : Nat} {x : X} {sh : Shape}, l[j]? = some (x, sh) → sel j (exits f hs l) = un sh hs (f x) := by
  intro l
  induction l with
  | nil => intro j x sh h; simp at h
  | cons a l ih =>
    intro j x sh h
    cases j with
    | zero => simp at h; subst h; rfl
    | succ j => simp only [exits, sel]; exact ih (by simpa using h)
end

/-! ### Code -/
section
variable {call : CallK} {callE : CallT} {mm : Bool} {F n0 : Nat} {ann : Ann}

theorem loop_ok {la : LoopAnn} {live : List Nat} {step : St → Option (X × St)} {body : Vs → Option (Vs ⊕ Vs)}
    (hb : ∀ (st : St) (v : Vs) (s : Vs ⊕ Vs), pkAny 0 la.heads (canon n0 live st) = some v → body v = some s → ∃ x st', step st = some (x, st') ∧ (match x with
      | .n => (match pkAny 0 la.heads (canon n0 live st') with | some v => some (.inl v) | none => none)
      | x => (match pkExit 0 la.exits x st' with | some v => some (.inr v) | none => none)) = some s) :
    ∀ (n : Nat) (st : St) (v o : Vs), pkAny 0 la.heads (canon n0 live st) = some v → loopK body n v = some o → ∃ x st', evLoop step n st = some (x, st') ∧ pkExit 0 la.exits x st' = some o := by
  intro n
  induction n with
  | zero => intro st v o _ h; cases h
  | succ n ih =>
    intro st v o hv h
    simp only [loopK, Option.bind_eq_some_iff] at h
    obtain ⟨s, h1, h2⟩ := h
    obtain ⟨x, st', h3, h4⟩ := hb st v s hv h1
    simp only [evLoop, h3]
    cases x with
    | n =>
      simp only at h4
      split at h4
      · rename_i v' hv'
        cases h4
        exact ih st' v' o hv' h2
      · cases h4
    | ret =>
      simp only at h4
      split at h4
      · rename_i v' hv'
        cases h4
        cases h2
        exact ⟨_, _, rfl, hv'⟩
      · cases h4
    | ex j =>
      simp only at h4
      split at h4
      · rename_i v' hv'
        cases h4
        cases h2
        exact ⟨_, _, rfl, hv'⟩
      · cases h4

theorem stCode_ok (hc : CallsAs call callE) : ∀ (c : SC) (i : Nat) {β : Type} (st : St) (K : X → St → Option β) (r : β), stCode mm call F n0 ann i c st K = some r → ∃ x st', evCode mm callE F n0 c st = some (x, st') ∧ K x st' = some r := by
  intro c
  induction c with
  | skip => intro i β st K r h; exact ⟨_, _, rfl, h⟩
  | region ops draw =>
    intro i β st K r h
    simp only [stCode] at h
    obtain ⟨st', h1, h2⟩ := stRegion_ok hc h
    exact ⟨_, st', by simp only [evCode, h1], h2⟩
  | seq a b ia ib =>
    intro i β st K r h
    simp only [stCode] at h
    obtain ⟨x, st1, h1, h2⟩ := ia _ _ _ _ h
    cases x with
    | n =>
      obtain ⟨x, st2, h3, h4⟩ := ib _ _ _ _ h2
      exact ⟨x, st2, by simp only [evCode, h1, h3], h4⟩
    | ret => exact ⟨_, st1, by simp only [evCode, h1], h2⟩
    | ex j => exact ⟨_, st1, by simp only [evCode, h1], h2⟩
  | cond c a b ia ib =>
    intro i β st K r h
    simp only [stCode] at h
    split at h
    · rename_i t ht
      rw [cond_some] at h
      rcases h with ⟨rfl, h⟩ | ⟨rfl, h⟩
      · obtain ⟨x, st', h1, h2⟩ := ia _ _ _ _ h
        exact ⟨x, st', by simp only [evCode, ht, h1], h2⟩
      · obtain ⟨x, st', h1, h2⟩ := ib _ _ _ _ h
        exact ⟨x, st', by simp only [evCode, ht, h1], h2⟩
    · cases h
  | block id b ib =>
    intro i β st K r h
    simp only [stCode] at h
    obtain ⟨x, st1, h1, h2⟩ := ib _ _ _ _ h
    cases x with
    | n => exact ⟨_, st1, by simp only [evCode, h1], h2⟩
    | ret => exact ⟨_, st1, by simp only [evCode, h1], h2⟩
    | ex j => exact ⟨_, st1, by simp only [evCode, h1], h2⟩
  | loop live b ib =>
    intro i β st K r h
    simp only [stCode] at h
    split at h
    · rename_i la hla
      split at h
      · rename_i v0 hv0
        rw [Option.bind_eq_some_iff] at h
        obtain ⟨o, h1, h2⟩ := h
        have hl := loop_ok (n0 := n0) (la := la) (live := live) (step := fun st => evCode mm callE F n0 b (canon n0 live st)) (fun st v s hv hs => by
          obtain ⟨j, sh, q1, q2, q3⟩ := pkAny_some hv
          simp only [Nat.zero_add] at q1
          rw [q1, sel_heads q2] at hs
          have h3 := un_ok q3 hs
          exact ib _ _ _ _ h3) F st v0 o hv0 h1
        obtain ⟨x, st', h3, h4⟩ := hl
        obtain ⟨j, sh, q1, q2, q3⟩ := pkExit_some h4
        simp only [Nat.zero_add] at q1
        rw [q1, sel_exits q2] at h2
        exact ⟨x, st', by simp only [evCode, h3], un_ok q3 h2⟩
      · cases h
    · cases h
  | exit id l => intro i β st K r h; exact ⟨_, _, rfl, h⟩
  | ret l => intro i β st K r h; exact ⟨_, _, rfl, h⟩
  | bad => intro i β st K r h; cases h

theorem frzE_ok {f : Objs → At → Option (V × Objs)} (hf : ∀ os x, f os (.v x) = some (x, os)) : ∀ {es : List (V × T2)} {vs : List V} {os : Objs}, frzE es = some vs → freezeM f os es = some (vs, os) := by
  intro es
  induction es with
  | nil => intro vs os h; cases h; rfl
  | cons e es ih =>
    intro vs os h
    obtain ⟨k, x⟩ := e
    cases x with
    | agg cs => simp [frzE] at h
    | a x =>
      cases x with
      | v x =>
        simp only [frzE] at h
        split at h
        · rename_i l hl
          cases h
          simp only [freezeM, freezeT, hf, ih hl]
        · cases h
      | _ => simp [frzE] at h

theorem freezeA_v (d : Nat) (os : Objs) (x : V) : freezeA d os (.v x) = some (x, os) := by cases d <;> rfl

theorem sfL_ok {β : Type} {r : β} {f : Objs → At → (V → Objs → Option β) → Option β} {g : Objs → At → Option (V × Objs)} (hf : ∀ os x K, f os x K = some r → ∃ v os', g os x = some (v, os') ∧ K v os' = some r) :
    ∀ {l : List At} {os : Objs} {K : List V → Objs → Option β}, sfL f os l K = some r → ∃ vs os', freezeL g os l = some (vs, os') ∧ K vs os' = some r := by
  intro l
  induction l with
  | nil => intro os K h; exact ⟨[], os, rfl, h⟩
  | cons x l ih =>
    intro os K h
    simp only [sfL] at h
    obtain ⟨v, os1, h1, h2⟩ := hf _ _ _ h
    obtain ⟨vs, os2, h3, h4⟩ := ih h2
    exact ⟨_, os2, by simp only [freezeL, h1, h3], h4⟩

theorem sfA_ok {β : Type} {r : β} : ∀ (d : Nat) (os : Objs) (x : At) (K : V → Objs → Option β), sfA d os x K = some r → ∃ v os', freezeA d os x = some (v, os') ∧ K v os' = some r := by
  intro d
  induction d with
  | zero =>
    intro os x K h
    cases x with
    | v x => exact ⟨x, os, rfl, h⟩
    | own i =>
      simp only [sfA] at h
      split at h
      · rename_i hi; exact ⟨_, os, by simp only [freezeA, hi], h⟩
      · rename_i hi; exact ⟨_, _, by simp only [freezeA, hi], h⟩
      · cases h
    | loc i o => cases o <;> simp [sfA] at h
    | _ => simp [sfA] at h
  | succ d ih =>
    intro os x K h
    cases x with
    | v x => exact ⟨x, os, rfl, h⟩
    | own i =>
      simp only [sfA] at h
      split at h
      · rename_i hi; exact ⟨_, os, by simp only [freezeA, hi], h⟩
      · rename_i hi; exact ⟨_, _, by simp only [freezeA, hi], h⟩
      · cases h
    | loc i o =>
      cases o with
      | succ o => simp [sfA] at h
      | zero =>
        simp only [sfA] at h
        split at h
        · rename_i ty cs hi
          obtain ⟨vs, os1, h1, h2⟩ := sfL_ok ih h
          exact ⟨_, os1, by simp only [freezeA, hi, h1], h2⟩
        · cases h
    | mapr i =>
      simp only [sfA] at h
      split at h
      · rename_i es hi
        rw [Option.bind_eq_some_iff] at h
        obtain ⟨vs, h1, h2⟩ := h
        exact ⟨_, _, by simp only [freezeA, hi, frzE_ok (freezeA_v d) h1], h2⟩
      · cases h
    | _ => simp [sfA] at h

theorem sfT_ok {β : Type} {r : β} {os : Objs} {x : T2} {K : V → Objs → Option β} (h : sfT os x K = some r) : ∃ v os', freezeT (freezeA depth) os x = some (v, os') ∧ K v os' = some r := by
  cases x with
  | a x => exact sfA_ok _ _ _ _ h
  | agg cs =>
    simp only [sfT] at h
    obtain ⟨vs, os1, h1, h2⟩ := sfL_ok (sfA_ok depth) h
    exact ⟨_, os1, by simp only [freezeT, h1], h2⟩

theorem sfTs_ok {β : Type} {r : β} : ∀ {l : List T2} {os : Objs} {K : List V → Objs → Option β}, sfTs os l K = some r → ∃ vs os', freezeTs os l = some (vs, os') ∧ K vs os' = some r := by
  intro l
  induction l with
  | nil => intro os K h; exact ⟨[], os, rfl, h⟩
  | cons x l ih =>
    intro os K h
    simp only [sfTs] at h
    obtain ⟨v, os1, h1, h2⟩ := sfT_ok h
    obtain ⟨vs, os2, h3, h4⟩ := ih h2
    exact ⟨_, os2, by simp only [freezeTs, h1, h3], h4⟩

theorem sfS_ok {β : Type} {r : β} {os : Objs} {sv : SV} {K : V → Objs → Option β} (h : sfS os sv K = some r) : ∃ v os', freezeS os sv = some (v, os') ∧ K v os' = some r := by
  cases sv with
  | a x => exact sfA_ok _ _ _ _ h
  | agg cs =>
    simp only [sfS] at h
    obtain ⟨vs, os1, h1, h2⟩ := sfL_ok (sfA_ok depth) h
    exact ⟨_, os1, by simp only [freezeS, h1], h2⟩
  | tup vs =>
    simp only [sfS] at h
    obtain ⟨vs, os1, h1, h2⟩ := sfTs_ok h
    exact ⟨_, os1, by simp only [freezeS, h1], h2⟩
  | _ => cases h

theorem stFinish_ok {β : Type} {r : β} {frz keep : Bool} {n : Nat} {sv : SV} {os : Objs} {K : SV → Objs → Option β} (h : stFinish frz keep n sv os K = some r) : ∃ y, finish keep n sv os = some y ∧ K y.sv y.objs = some r := by
  unfold stFinish at h
  split at h
  · rename_i hk
    exact ⟨_, by simp only [finish, hk, if_true], h⟩
  · rename_i hk
    split at h
    · obtain ⟨v, os1, h1, h2⟩ := sfS_ok h
      exact ⟨_, by simp only [finish, hk, h1]; rfl, h2⟩
    · split at h
      · rename_i y hy; exact ⟨y, hy, h⟩
      · cases h

theorem stFn_ok (hc : CallsAs call callE) {fn : SFn} {args : List SV} {os : Objs} {β : Type} {K : SV → Objs → Option β} {r : β} (h : stFn call F ann fn args os K = some r) : ∃ y, evFn callE F fn args os = some y ∧ K y.sv y.objs = some r := by
  unfold stFn at h
  obtain ⟨x, st, h1, h2⟩ := stCode_ok hc _ _ _ _ _ h
  unfold evFn
  rw [h1]
  cases x with
  | ex j => cases h2
  | n =>
    simp only at h2 ⊢
    split at h2
    · rename_i l hl
      rw [hl]
      exact stFinish_ok h2
    · cases h2
  | ret =>
    simp only at h2 ⊢
    split at h2
    · rename_i l hl
      rw [hl]
      exact stFinish_ok h2
    · cases h2
end

/-- What is told, in the evaluator's words. -/
def toE (tab : ToldK) : CallT := fun f args os => match tab f (viewL os args) os with
  | some t => t R (fun sv os => some ⟨sv, os⟩)
  | none => none

/-- Told calls are binds. -/
def Binds (tab : ToldK) : Prop := ∀ f args os t, tab f args os = some t → ∀ {β : Type} (K : SV → Objs → Option β) (r : β), t β K = some r → ∃ y, t R (fun sv os => some (R.mk sv os)) = some y ∧ K y.sv y.objs = some r

theorem stN_ok {tab : ToldK} {code : FuncId → Option SFn} {ann : FuncId → Nat → Ann} {F : Nat} (hb : Binds tab) : ∀ d, CallsAs (stN tab code ann F d) (callM (toE tab) code F d) := by
  have told : ∀ {f args os t} {β : Type} {K : SV → Objs → Option β} {r : β}, tab f (viewL os args) os = some t → t β K = some r → ∃ y, toE tab f args os = some y ∧ K y.sv y.objs = some r := by
    intro f args os t β K r h1 h2
    obtain ⟨y, h3, h4⟩ := hb f _ os t h1 K r h2
    exact ⟨y, by simp only [toE, h1]; exact h3, h4⟩
  intro d
  induction d with
  | zero =>
    intro β f args os K r h
    simp only [stN] at h
    split at h
    · rename_i t ht; exact told ht h
    · cases h
  | succ d ih =>
    intro β f args os K r h
    simp only [stN] at h
    split at h
    · rename_i t ht
      obtain ⟨y, h1, h2⟩ := told ht h
      exact ⟨y, by simp only [callM, h1], h2⟩
    · rename_i ht
      split at h
      · rename_i fn hfn
        obtain ⟨y, h1, h2⟩ := stFn_ok ih h
        have : toE tab f args os = none := by simp only [toE, ht]
        exact ⟨y, by simp only [callM, this, hfn]; exact h1, h2⟩
      · cases h
end Go.Ev
