/- Plain laws: chains of places; no program in sight. -/
import Derived.Test.YtbppinniokmdnaaDoorCuLp
namespace Go.Proofs.YtbppinniokmdnaaDoor.gd
open Go Go.Ev
set_option linter.unusedSimpArgs false
section
variable {K : Type} [DecidableEq K] {go : K → Bool} {z : K}
/-- What a place lies in. -/
def nxt1 (z : K) (m : List (K × K)) (s : K) : K := (getM s m).getD z
/-- A place's chain, the world left out. -/
inductive Ch (go : K → Bool) (z : K) (m : List (K × K)) : K → List K → Prop
  | stop {s : K} : go s = false → Ch go z m s []
  | step {s : K} {l : List K} : go s = true → Ch go z m (nxt1 z m s) l → Ch go z m s (s :: l)

variable {m : List (K × K)}
theorem Ch.det {s : K} {l l' : List K} (h : Ch go z m s l) (h' : Ch go z m s l') : l = l' := by
  induction h generalizing l' with
  | stop h => cases h' with
    | stop _ => rfl
    | step h2 _ => rw [h] at h2; cases h2
  | step h1 _ ih => cases h' with
    | stop h2 => rw [h1] at h2; cases h2
    | step _ h3 => rw [ih h3]

theorem Ch.go_of {s : K} {l : List K} (h : Ch go z m s l) : ∀ x ∈ l, go x = true := by
  induction h with
  | stop _ => intro x hx; cases hx
  | step h1 _ ih =>
    intro x hx
    rcases List.mem_cons.1 hx with rfl | hx
    · exact h1
    · exact ih x hx

/-- Each thing in a chain begins the chain's rest. -/
theorem Ch.tail_of {s : K} {l : List K} (h : Ch go z m s l) : ∀ x ∈ l, ∃ pre l', l = pre ++ l' ∧ Ch go z m x l' := by
  induction h with
  | stop _ => intro x hx; cases hx
  | @step s l h1 h2 ih =>
    intro x hx
    rcases List.mem_cons.1 hx with rfl | hx
    · exact ⟨[], _, rfl, .step h1 h2⟩
    · obtain ⟨pre, l', e, h3⟩ := ih x hx
      exact ⟨s :: pre, l', by rw [e]; rfl, h3⟩

theorem Ch.nodup {s : K} {l : List K} (h : Ch go z m s l) : l.Nodup := by
  induction h with
  | stop _ => exact List.nodup_nil
  | @step s l h1 h2 ih =>
    refine List.nodup_cons.2 ⟨fun hm => ?_, ih⟩
    obtain ⟨pre, l', e, h3⟩ := h2.tail_of s hm
    have := h3.det (.step h1 h2)
    rw [this] at e
    have := congrArg List.length e
    simp only [List.length_append, List.length_cons] at this
    omega

theorem nodup_len {l : List K} : ∀ {ks : List K}, l.Nodup → (∀ x ∈ l, x ∈ ks) → l.length ≤ ks.length := by
  induction l with
  | nil => intro ks _ _; exact Nat.zero_le _
  | cons x l ih =>
    intro ks hn hs
    have hx := hs x (List.mem_cons_self ..)
    have := ih (ks := ks.erase x) (List.nodup_cons.1 hn).2 (fun y hy => (List.mem_erase_of_ne (fun (e : y = x) => (List.nodup_cons.1 hn).1 (by rw [← e]; exact hy))).2 (hs y (List.mem_cons_of_mem _ hy)))
    rw [List.length_erase_of_mem hx] at this
    have : 0 < ks.length := List.length_pos_of_mem hx
    simp only [List.length_cons]
    omega

theorem getM_mem {s : K} {m : List (K × K)} {x : K} (h : getM s m = some x) : s ∈ m.map Prod.fst := by
  induction m with
  | nil => cases h
  | cons p m ih =>
    unfold getM at h
    split at h
    · rename_i e; simp [e]
    · exact List.mem_cons_of_mem _ (ih h)

/-- A chain is no longer than the map, but for one. -/
theorem Ch.len {s : K} {l : List K} (hz : go z = false) (h : Ch go z m s l) : l.length ≤ m.length + 1 := by
  have key : ∀ {s : K} {l : List K}, Ch go z m s l → ∀ x ∈ l, x ∈ m.map Prod.fst ∨ l.getLast? = some x := by
    intro s l h
    induction h with
    | stop _ => intro x hx; cases hx
    | @step s l h1 h2 ih =>
      intro x hx
      cases l with
      | nil => simp at hx; subst hx; exact .inr rfl
      | cons y l =>
        rcases List.mem_cons.1 hx with rfl | hx
        · left
          cases hg : getM x m with
          | some q => exact getM_mem hg
          | none =>
            unfold nxt1 at h2
            rw [hg] at h2
            cases h2 with
            | step h3 _ => simp only [Option.getD_none] at h3; rw [hz] at h3; cases h3
        · rcases ih x hx with h4 | h4
          · exact .inl h4
          · exact .inr (by rw [List.getLast?_cons_cons]; exact h4)
  cases he : l.getLast? with
  | none =>
    rw [List.getLast?_eq_none_iff] at he
    rw [he]; exact Nat.zero_le _
  | some y =>
    have := nodup_len (ks := y :: m.map Prod.fst) h.nodup (fun x hx => by
      rcases key h x hx with h1 | h1
      · exact List.mem_cons_of_mem _ h1
      · rw [he] at h1; cases h1; exact List.mem_cons_self ..)
    simpa using this

theorem getM_put (k s : K) (x : K) (m : List (K × K)) : getM s (putM k x m) = if s = k then some x else getM s m := by
  induction m with
  | nil =>
    unfold putM getM
    by_cases h : s = k
    · simp [h]
    · have h' : ¬ k = s := fun e => h e.symm
      simp [h, h', getM]
  | cons p m ih =>
    unfold putM
    split
    · rename_i e
      unfold getM
      by_cases h : s = k
      · simp [h, e]
      · have h' : ¬ k = s := fun e => h e.symm
        simp [h, e] at *
        simp [h, h', e]
    · rename_i e
      unfold getM
      rw [ih]
      by_cases h : s = k
      · subst h; simp [e]
      · by_cases h2 : p.1 = s
        · simp [h2, h]
        · simp [h2, h]

theorem Ch.put_out {c p s : K} {l : List K} (h : Ch go z m s l) (hc : c ∉ l) : Ch go z (putM c p m) s l := by
  induction h with
  | stop h => exact .stop h
  | @step s l h1 _ ih =>
    refine .step h1 ?_
    have : nxt1 z (putM c p m) s = nxt1 z m s := by
      unfold nxt1
      rw [getM_put, if_neg (fun e => hc (by rw [e]; exact List.mem_cons_self ..))]
    rw [this]
    exact ih fun h => hc (List.mem_cons_of_mem _ h)

/-- Places may be put into one that does not lie in them. -/
theorem Ch.put {c p : K} {L0 : List K} (h0 : Ch go z m p L0) (hc : c ∉ L0) {s : K} {l : List K} (h : Ch go z m s l) : ∃ l', Ch go z (putM c p m) s l' := by
  induction h with
  | stop h => exact ⟨_, .stop h⟩
  | @step s l h1 _ ih =>
    by_cases e : s = c
    · subst e
      have : nxt1 z (putM s p m) s = p := by unfold nxt1; rw [getM_put, if_pos rfl]; rfl
      exact ⟨_, .step h1 (by rw [this]; exact h0.put_out hc)⟩
    · have : nxt1 z (putM c p m) s = nxt1 z m s := by unfold nxt1; rw [getM_put, if_neg e]
      obtain ⟨l', h2⟩ := ih
      exact ⟨_, .step h1 (by rw [this]; exact h2)⟩

theorem Ch.nil (hz : go z = false) (s : K) : ∃ l, Ch go z ([] : List (K × K)) s l := by
  cases h : go s with
  | false => exact ⟨_, .stop h⟩
  | true => exact ⟨_, .step h (.stop (show go ((getM s ([] : List (K × K))).getD z) = false from hz))⟩
end
end Go.Proofs.YtbppinniokmdnaaDoor.gd
