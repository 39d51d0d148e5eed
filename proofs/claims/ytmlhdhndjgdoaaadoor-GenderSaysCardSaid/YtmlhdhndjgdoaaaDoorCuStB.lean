/- One operation, staged, answers as the evaluator's. -/
import Derived.Test.YtmlhdhndjgdoaaaDoorCuStA
namespace Go.Ev

def CallsAs (call : CallK) (callE : CallT) : Prop := ∀ {β : Type} (f : FuncId) (args : List SV) (os : Objs) (K : SV → Objs → Option β) (r : β), call f args os K = some r → ∃ y, callE f args os = some y ∧ K y.sv y.objs = some r

section
variable {β : Type} {r : β} {call : CallK} {callE : CallT} {mm : Bool} {ty : Ty} {fr : List SV} {os : Objs} {K : SV → Objs → Option β}

theorem goOp_some {y : Option R} (h : goOp y K = some r) : ∃ z, y = some z ∧ K z.sv z.objs = some r := by
  cases y with
  | none => cases h
  | some z => exact ⟨z, rfl, h⟩

theorem freezeS_v (os : Objs) (x : V) : freezeS os (.a (.v x)) = some (x, os) := rfl

theorem frz_one : ∀ (ys : List At) (os : Objs) (vs : List V) (os' : Objs), freezeL (freezeA depth) os ys = some (vs, os') → vs.all V.one = true → ys.all At.one = true := by
  intro ys
  induction ys with
  | nil => intro os vs os' _ _; rfl
  | cons y ys ih =>
    intro os vs os' h hv
    simp only [freezeL] at h
    split at h
    · rename_i v os1 h1
      split at h
      · rename_i vs' os2 h2
        simp only [Option.some.injEq, Prod.mk.injEq] at h
        obtain ⟨rfl, rfl⟩ := h
        simp only [List.all_cons, Bool.and_eq_true] at hv ⊢
        refine ⟨?_, ih _ _ _ h2 hv.2⟩
        cases y with
        | v x =>
          have : freezeA depth os (.v x) = some (x, os) := rfl
          rw [this] at h1
          cases h1
          exact hv.1
        | _ => rfl
      · cases h
    · cases h

theorem allV_eq : ∀ {cs : List At} {vs : List V}, allV cs = some vs → cs = vs.map At.v := by
  intro cs
  induction cs with
  | nil => intro vs h; cases h; rfl
  | cons c cs ih =>
    intro vs h
    cases c with
    | v x =>
      unfold allV at h
      cases hr : allV cs with
      | none => rw [hr] at h; cases h
      | some ws => rw [hr] at h; cases h; rw [ih hr]; rfl
    | _ => cases h
theorem ldC_some {os : Objs} {n : Nat} {ag : Bool} {sx : SV} {vs : List V} {o : Nat} {v : V} (h : ldC os n ag sx = some (vs, o)) (hv : vs[o]? = some v) : loadA os n ag sx = some (.a (.v v)) := by
  unfold ldC at h
  split at h
  · rename_i i o'
    split at h
    · rename_i ty cs hi
      split at h
      · rename_i hc
        obtain ⟨_, rfl, rfl⟩ := hc
        cases ha : allV cs with
        | none => rw [ha] at h; cases h
        | some ws =>
          rw [ha] at h
          cases h
          have := allV_eq ha
          subst this
          simp only [loadA, hi, cutA, List.getElem?_map, hv, Option.map_some]
          rfl
      · cases h
    · cases h
  · cases h

theorem st_ld {n : Nat} {ag : Bool} {x : SOpd} (h : stOp mm call ty fr os (.ld n ag x) K = some r) : ∃ y, evOp mm callE fr os (.ld n ag x) = some y ∧ K y.sv y.objs = some r := by
  simp only [stOp] at h
  split at h
  · rename_i i sz k o hx
    split at h
    · rename_i e sz' xs hi
      split at h
      · rename_i hsz
        rw [Option.bind_eq_some_iff] at h
        obtain ⟨x', h1, h2⟩ := h
        obtain ⟨hk, h1⟩ := idxL_some h1
        have h3 := dEl_ok h2
        split at h3
        · rename_i s hs
          have hk' : ((k : Int)).toNat = k := by omega
          rw [hk'] at h1
          refine ⟨⟨s, os⟩, ?_, h3⟩
          simp only [evOp, loadA, hx, hi, hsz, if_true, h1, hs]
        · cases h3
      · cases h
    · cases h
  · rename_i o hx
    obtain ⟨cs, rfl, h2⟩ := ptK_ok h
    split at h2
    · rename_i s hs
      exact ⟨⟨s, os⟩, by simp only [evOp, loadA, hx, hs], h2⟩
    · cases h2
  · split at h
    · rename_i vs o hl
      rw [Option.bind_eq_some_iff] at h
      obtain ⟨v, hv, h⟩ := h
      exact ⟨⟨.a (.v v), os⟩, by simp only [evOp, ldC_some hl hv], dSV_ok (K := fun sv => K sv os) h⟩
    · split at h
      · rename_i y hy
        exact ⟨y, hy, dSV_ok (K := fun sv => K sv y.objs) h⟩
      · cases h

theorem st_st {n : Nat} {x v : SOpd} (h : stOp mm call ty fr os (.st n x v) K = some r) : ∃ y, evOp mm callE fr os (.st n x v) = some y ∧ K y.sv y.objs = some r := by
  simp only [stOp] at h
  split at h
  · rename_i i o hx
    obtain ⟨ys, h1, h2, h3, h4⟩ := boxK_ok h
    split at h4
    · rename_i ty' cs hi
      split at h4
      · rename_i hl
        refine ⟨⟨.void, _⟩, ?_, h4⟩
        simp only [evOp, storeA, h1, hx, hi]
        rw [if_pos ⟨h2, h3⟩, if_pos hl]
      · cases h4
    · cases h4
  · rename_i i sz k o hx
    split at h
    · rename_i ys hys
      split at h
      · rename_i hn
        split at h
        · rename_i vs os1 hf
          rw [chk_some] at h
          obtain ⟨hone, h⟩ := h
          have hall : ys.all At.one = true := frz_one ys os vs os1 hf hone
          split at h
          · rename_i e sz' xs hi
            split at h
            · rename_i hsz
              rw [Option.bind_eq_some_iff] at h
              obtain ⟨x', h1, h2⟩ := h
              obtain ⟨hk, h1⟩ := idxL_some h1
              have hk' : ((k : Int)).toNat = k := by omega
              rw [hk'] at h1
              split at h2
              · rename_i l hl
                rw [Option.bind_eq_some_iff] at h2
                obtain ⟨cs, h3, h4⟩ := h2
                obtain ⟨rfl, hlen⟩ := asAgg_some h3
                split at h4
                · rename_i hle
                  refine ⟨⟨.void, _⟩, ?_, h4⟩
                  simp only [evOp, storeA, hys, hx, hf, hi, h1]
                  rw [if_pos ⟨hn, hall⟩]
                  simp only [hone]
                  rw [if_neg (by simp), if_pos hsz]
                  simp only [V.one, V.cells, hlen]
                  rw [if_neg (by simp), if_pos hle]
                · cases h4
              · split at h2
                · rename_i y
                  rw [chk_some] at h2
                  refine ⟨⟨.void, _⟩, ?_, h2.2⟩
                  simp only [evOp, storeA, hys, hx, hf, hi, h1]
                  rw [if_pos ⟨hn, hall⟩]
                  simp only [hone]
                  rw [if_neg (by simp), if_pos hsz]
                  simp only [h2.1]
                  rfl
                · cases h2
            · cases h
          · cases h
        · cases h
      · cases h
    · cases h
  · cases h

theorem st_iadr {sz : Nat} {x i : SOpd} (h : stOp mm call ty fr os (.iadr sz x i) K = some r) : ∃ y, evOp mm callE fr os (.iadr sz x i) = some y ∧ K y.sv y.objs = some r := by
  simp only [stOp] at h
  split at h
  · rename_i k n hi
    split at h
    · rename_i o hx
      rw [Option.bind_eq_some_iff] at h
      obtain ⟨y, h1, h2⟩ := h
      obtain ⟨hn, h1⟩ := idxL_some h1
      have h3 := dEl_ok h2
      split at h3
      · rename_i hc
        refine ⟨⟨_, _⟩, ?_, h3⟩
        cases o with
        | none => simp at h1
        | some xs =>
          simp only [Option.getD_some] at h1
          simp only [evOp, hi, hx, asInt, hn, if_false, h1, hc, if_true]
      · cases h3
    · rename_i j s o m hx
      split at h
      · rename_i hsz
        rw [chk_some, Bool.and_eq_true] at h
        obtain ⟨⟨q1, q2⟩, h⟩ := h
        have q1 : 0 ≤ n := by simpa using q1
        have q2 : n.toNat < m := by simpa using q2
        refine ⟨⟨_, _⟩, ?_, h⟩
        simp only [evOp, hi, hx, asInt]
        rw [if_neg (by omega), if_pos ⟨hsz, q2⟩]
      · cases h
    · rename_i j hx
      split at h
      · rename_i e sz' xs hj
        rw [Option.bind_eq_some_iff] at h
        obtain ⟨y, h1, h2⟩ := h
        obtain ⟨hn, h1⟩ := idxL_some h1
        have h3 := dEl_ok h2
        split at h3
        · rename_i hc
          refine ⟨⟨_, _⟩, ?_, h3⟩
          simp only [evOp, hi, hx, asInt, hn, if_false, hj, h1, hc, if_true]
        · cases h3
      · rename_i e sz' xs hj
        split at h
        · rename_i hsz
          rw [chk_some, Bool.and_eq_true] at h
          obtain ⟨⟨q1, q2⟩, h⟩ := h
          have q1 : 0 ≤ n := by simpa using q1
          have q2 : n.toNat < xs.length := by simpa using q2
          refine ⟨⟨_, _⟩, ?_, h⟩
          simp only [evOp, hi, hx, asInt, hj]
          rw [if_neg (by omega), if_pos ⟨hsz, q2⟩]
        · cases h
      · cases h
    · cases h
  · cases h

theorem st_slcL {sz : Nat} {x : SOpd} {lo hi : Option SOpd} (h : stOp mm call ty fr os (.slcL sz x lo hi) K = some r) : ∃ y, evOp mm callE fr os (.slcL sz x lo hi) = some y ∧ K y.sv y.objs = some r := by
  simp only [stOp] at h
  split at h
  · rename_i l k hl hk
    split at h
    · rename_i i o n hwin
      rw [Option.bind_eq_some_iff] at h
      obtain ⟨q, h1, h2⟩ := h
      refine ⟨⟨_, _⟩, ?_, h2⟩
      simp only [evOp, hwin]
      rw [bounds_of hl hk, h1]
    rename_i hwin
    split at h
    · rename_i o hx
      rw [Option.bind_eq_some_iff] at h
      obtain ⟨o', h1, h2⟩ := h
      refine ⟨⟨_, _⟩, ?_, h2⟩
      cases o with
      | none =>
        simp only [cutSl, Option.map_eq_some_iff] at h1
        obtain ⟨ys, h3, rfl⟩ := h1
        obtain ⟨a, b, h4, -⟩ := cutL_some h3
        simp only [evOp, hwin]
        simp only [hx]
        rw [bounds_of hl hk]
        simp only [List.length_nil] at h4
        rw [h4]
      | some xs =>
        simp only [cutSl] at h1
        split at h1
        · rename_i hh
          simp only [Option.map_eq_some_iff] at h1
          obtain ⟨ys, h3, rfl⟩ := h1
          obtain ⟨a, b, h4, rfl⟩ := cutL_some h3
          simp only [evOp, hwin]
          simp only [hx, elems, freezeS_v]
          rw [bounds_of hl hk, h4]
          simp only [hh, if_true]
        · cases h1
    · rename_i i hx
      obtain ⟨xs, h1, h2⟩ := elemsK_some h
      rw [Option.bind_eq_some_iff] at h2
      obtain ⟨ys, h3, h4⟩ := h2
      obtain ⟨a, b, h5, rfl⟩ := cutL_some h3
      split at h4
      · rename_i v os1 hf
        rw [chk_some] at h4
        refine ⟨⟨_, _⟩, ?_, h4.2⟩
        simp only [evOp, hwin]
        simp only [hx, h1, hf]
        rw [bounds_of hl hk, h5]
        simp only [h4.1, if_true]
      · cases h4
    · cases h
  · cases h

theorem optTup_getD {ok : Bool} {zero : V} {y : Option V} : optTup ok (.a (.v (y.getD zero))) y.isSome = (match y with | some x => optTup ok (.a (.v x)) true | none => optTup ok (.a (.v zero)) false) := by
  cases y <;> rfl

theorem st_look {kt : KT} {zero : V} {ok : Bool} {x i : SOpd} (h : stOp mm call ty fr os (.look kt zero ok x i) K = some r) : ∃ y, evOp mm callE fr os (.look kt zero ok x i) = some y ∧ K y.sv y.objs = some r := by
  simp only [stOp] at h
  split at h
  · cases h
  · rename_i k os1 hf
    split at h
    · cases h
    · rename_i cs hcs
      split at h
      · rename_i o hx
        rw [Option.bind_eq_some_iff] at h
        obtain ⟨y, h1, h2⟩ := h
        have h3 := dSV_ok (K := fun sv => K sv os1) h2
        rw [optTup_getD] at h3
        have h1 := lookM_ok h1
        refine ⟨⟨_, _⟩, ?_, h3⟩
        simp only [evOp, hf, hcs, hx, Option.isNone_some]
        cases o with
        | none => simp only at h1; cases h1; rfl
        | some es => simp only at h1; cases y <;> simp [h1]
      · rename_i j hx
        split at h
        · rename_i es hj
          rw [Option.bind_eq_some_iff] at h
          obtain ⟨y, h1, h2⟩ := h
          have h3 := dSV_ok (K := fun sv => K sv os1) h2
          rw [optTup_getD] at h3
          refine ⟨⟨_, _⟩, ?_, h3⟩
          simp only [evOp, hf, hcs, hx, Option.isNone_some, hj]
          unfold lookE at h1
          split at h1
          · rename_i y' hy; cases h1; simp [hy]
          · rename_i hy; cases h1; simp [hy]
          · cases h1
        · cases h
      · cases h

theorem st_app {e : TypeId} {sz : Nat} {s x : SOpd} (h : stOp mm call ty fr os (.app e sz s x) K = some r) : ∃ y, evOp mm callE fr os (.app e sz s x) = some y ∧ K y.sv y.objs = some r := by
  simp only [stOp] at h
  split at h
  · rename_i v hx
    rw [Option.bind_eq_some_iff] at h
    obtain ⟨ys, h1, h2⟩ := h
    obtain ⟨y, h3, h4⟩ := appK_ok h2
    refine ⟨y, ?_, h4⟩
    cases v <;> simp [elV] at h1
    · subst h1; simp only [evOp, hx]; exact h3
    · rename_i o
      subst h1
      simp only [evOp, hx, elems_sl, freezeS_v]
      exact h3
  · rename_i i hx
    obtain ⟨xs, h1, h2⟩ := elemsK_some h
    split at h2
    · rename_i v os1 hf
      obtain ⟨y, h3, h4⟩ := appK_ok h2
      refine ⟨y, ?_, h4⟩
      simp only [evOp, hx, h1, hf]
      exact h3
    · cases h2
  · cases h

theorem idxK_some {β : Type} {r : β} {K : Nat → Option β} {n : Int} : ∀ {k j : Nat}, idxK k j n K = some r → ∃ m : Nat, n = (m : Int) ∧ j ≤ m ∧ m < j + k ∧ K m = some r := by
  intro k
  induction k with
  | zero => intro j h; cases h
  | succ k ih =>
    intro j h
    unfold idxK at h
    cases hb : (n == (j : Int)) with
    | true =>
      rw [hb] at h
      exact ⟨j, by simpa using hb, Nat.le_refl _, by omega, h⟩
    | false =>
      rw [hb] at h
      obtain ⟨m, h1, h2, h3, h4⟩ := ih h
      exact ⟨m, h1, by omega, by omega, h4⟩

theorem stOp_ok (hc : CallsAs call callE) {op : SOp} (h : stOp mm call ty fr os op K = some r) : ∃ y, evOp mm callE fr os op = some y ∧ K y.sv y.objs = some r := by
  cases op with
  | pick c a b =>
    simp only [stOp] at h
    split at h
    · rename_i t ht
      rw [cond_some] at h
      rcases h with ⟨rfl, h⟩ | ⟨rfl, h⟩
      · exact ⟨⟨_, _⟩, by simp only [evOp, ht]; rfl, h⟩
      · exact ⟨⟨_, _⟩, by simp only [evOp, ht]; rfl, h⟩
    · cases h
  | box ty n x =>
    simp only [stOp] at h
    obtain ⟨cs, h1, h2, h3, h4⟩ := boxK_ok h
    refine ⟨⟨_, _⟩, ?_, h4⟩
    simp only [evOp, h1]
    rw [if_pos ⟨h2, h3⟩]
  | ari op x y =>
    simp only [stOp] at h
    split at h
    · rename_i a b ha hb
      obtain ⟨v, h1, h2⟩ := ariK_ok h
      exact ⟨⟨_, _⟩, by simp only [evOp, ha, hb, h1], h2⟩
    · cases h
  | eq neg k x y =>
    simp only [stOp] at h
    obtain ⟨b, h1, h2⟩ := eqK_ok h
    exact ⟨⟨_, _⟩, by simp only [evOp, h1], h2⟩
  | ld n ag x => exact st_ld h
  | st n x v => exact st_st h
  | nchk x =>
    simp only [stOp] at h
    split at h
    · rename_i o hx
      obtain ⟨cs, rfl, h2⟩ := ptK_ok h
      exact ⟨⟨_, _⟩, by simp only [evOp, hx], h2⟩
    · exact goOp_some h
  | fadr off x =>
    simp only [stOp] at h
    split at h
    · rename_i o hx
      obtain ⟨cs, rfl, h2⟩ := ptK_ok h
      exact ⟨⟨_, _⟩, by simp only [evOp, hx], h2⟩
    · exact goOp_some h
  | cvSB e x =>
    simp only [stOp] at h
    split at h
    · rename_i s hs
      rw [chk_some] at h
      exact ⟨⟨_, _⟩, by simp only [evOp, hs, h.1, if_true]; rfl, h.2⟩
    · cases h
  | cvBS x =>
    simp only [stOp] at h
    have key : ∀ xs, elems os (opd fr x) = some xs → ((bytesOf xs).bind fun s => K (.a (.v (.str s))) os) = some r → ∃ y, evOp mm callE fr os (.cvBS x) = some y ∧ K y.sv y.objs = some r := by
      intro xs h1 h2
      rw [Option.bind_eq_some_iff] at h2
      obtain ⟨s, h3, h4⟩ := h2
      exact ⟨⟨_, _⟩, by simp only [evOp, h1, h3], h4⟩
    generalize hsv : opd fr x = sv at h key
    cases sv with
    | a y =>
      cases y with
      | v v =>
        simp only [elemsK, Option.bind_eq_some_iff] at h
        obtain ⟨ys, h1, s, h3, h4⟩ := h
        cases v <;> simp [slV] at h1
        subst h1
        exact key _ (elems_sl _ _) (by rw [h3]; exact h4)
      | own i =>
        obtain ⟨xs, h1, h2⟩ := elemsK_some h
        exact key xs h1 h2
      | _ => cases h
    | _ => cases h
  | iadr sz x i => exact st_iadr h
  | iadrA len sz x i =>
    simp only [stOp] at h
    split at h
    · rename_i kk n hn
      have hsel : ∃ m : Nat, n = (m : Int) ∧ m < len ∧ (match opd fr x with
          | .a (.loc j o) => K (.a (.loc j (o + m * sz))) os
          | .a (.el j s q o) => K (.a (.el j s q (o + m * sz))) os
          | .a (.fadr cs o) => K (.a (.fadr cs (o + m * sz))) os
          | .a (.v (.ptr cs)) => K (.a (.fadr cs (m * sz))) os
          | _ => none) = some r := by
        split at h
        · obtain ⟨m, q1, _, q2, q3⟩ := idxK_some h
          exact ⟨m, q1, by omega, q3⟩
        · rw [chk_some, Bool.and_eq_true, decide_eq_true_eq, decide_eq_true_eq] at h
          exact ⟨n.toNat, by omega, by omega, h.2⟩
      obtain ⟨m, rfl, hm, h⟩ := hsel
      have hb : (0 : Int) ≤ (m : Int) ∧ (m : Int) < len := by omega
      have hm' : ((m : Nat) : Int).toNat = m := by omega
      split at h
      · rename_i j o hx
        exact ⟨⟨_, _⟩, by simp only [evOp, hn, asInt]; rw [if_pos hb, hx, hm'], h⟩
      · rename_i j s q o hx
        exact ⟨⟨_, _⟩, by simp only [evOp, hn, asInt]; rw [if_pos hb, hx, hm'], h⟩
      · rename_i cs o hx
        exact ⟨⟨_, _⟩, by simp only [evOp, hn, asInt]; rw [if_pos hb, hx, hm'], h⟩
      · rename_i cs hx
        exact ⟨⟨_, _⟩, by simp only [evOp, hn, asInt]; rw [if_pos hb, hx, hm'], h⟩
      · cases h
    · cases h
  | idxS x i =>
    simp only [stOp] at h
    split at h
    · rename_i s k n hs hn
      rw [Option.bind_eq_some_iff] at h
      obtain ⟨b, h1, h2⟩ := h
      obtain ⟨h0, h1⟩ := idxL_some h1
      exact ⟨⟨_, _⟩, by simp only [evOp, hs, hn, asInt, h0, if_false, h1], h2⟩
    · cases h
  | slcS x lo hi =>
    simp only [stOp] at h
    split at h
    · rename_i s l k hs hl hk
      rw [Option.bind_eq_some_iff] at h
      obtain ⟨t, h1, h2⟩ := h
      obtain ⟨a, b, h3, rfl⟩ := cutL_some h1
      exact ⟨⟨_, _⟩, by simp only [evOp, hs]; rw [bounds_of hl hk, h3], h2⟩
    · cases h
  | slcL sz x lo hi => exact st_slcL h
  | look kt zero ok x i => exact st_look h
  | mupd kt x k v =>
    simp only [stOp] at h
    split at h
    · cases h
    · rename_i k' os1 hf
      split at h
      · cases h
      · rename_i cs hcs
        split at h
        · rename_i j y hx hy
          split at h
          · rename_i es hj
            rw [chk_some, Option.bind_eq_some_iff] at h
            obtain ⟨h1, es', h2, h3⟩ := h
            exact ⟨⟨_, _⟩, by simp only [evOp, hf, hcs, hx, hy, hj, h1, h2, Option.isNone_some]; rfl, h3⟩
          · cases h
        · cases h
  | s2a n x =>
    simp only [stOp] at h
    split at h
    · rename_i l
      have key : ∀ xs, elems os (opd fr x) = some xs → chk (decide (xs.length = n) && decide (0 < n) && decide (l.length = n)) (dL l 0 xs fun cs => chk (cs.all V.one) (match freezeS os (opd fr x) with
          | some (_, os) => K (.a (.fadr cs 0)) os
          | none => none)) = some r → ∃ y, evOp mm callE fr os (.s2a n x) = some y ∧ K y.sv y.objs = some r := by
        intro xs h1 h2
        rw [chk_some] at h2
        obtain ⟨h3, h4⟩ := h2
        simp only [Bool.and_eq_true, decide_eq_true_eq] at h3
        obtain ⟨⟨q1, q2⟩, q3⟩ := h3
        have h5 := dL_ok h4 (by omega)
        simp only [List.drop_zero, chk_some] at h5
        obtain ⟨h6, h7⟩ := h5
        split at h7
        · rename_i v os1 hf
          refine ⟨⟨_, _⟩, ?_, h7⟩
          simp only [evOp, h1, hf]
          rw [if_pos ⟨by omega, q2, h6⟩]
        · cases h7
      generalize hsv : opd fr x = sv at h key
      cases sv with
      | a y =>
        cases y with
        | v v =>
          simp only [elemsK, Option.bind_eq_some_iff] at h
          obtain ⟨ys, h1, h2⟩ := h
          cases v <;> simp [slV] at h1
          subst h1
          exact key _ (elems_sl _ _) h2
        | own i =>
          obtain ⟨xs, h1, h2⟩ := elemsK_some h
          exact key xs h1 h2
        | _ => cases h
      | _ => cases h
    · cases h
  | mksl e sz zero len cap =>
    simp only [stOp] at h
    split at h
    · rename_i k l k' c hl hc
      rw [chk_some] at h
      obtain ⟨h1, h2⟩ := h
      simp only [Bool.and_eq_true, decide_eq_true_eq] at h1
      refine ⟨⟨_, _⟩, ?_, h2⟩
      simp only [evOp, hl, hc, asInt]
      rw [if_pos ⟨h1.1.1, h1.1.2, h1.2⟩]
    · cases h
  | nxt x =>
    simp only [stOp] at h
    split at h
    · rename_i i hx
      split at h
      · rename_i s pos hi
        rw [cond_some] at h
        rcases h with ⟨h1, h⟩ | ⟨h1, h⟩
        · refine ⟨⟨_, _⟩, ?_, h⟩
          simp only [evOp, hx, hi]
          rw [if_pos (by simpa using h1)]
        · refine ⟨⟨_, _⟩, ?_, h⟩
          simp only [evOp, hx, hi]
          rw [if_neg (by simpa using h1)]
      · cases h
    · cases h
  | call f args => exact hc f _ os K r h
  | callv f args =>
    simp only [stOp] at h
    simp only [evOp]
    split at h
    · rename_i g a b hf
      rw [hf]
      exact hc _ _ os K r h
    · rename_i g a b hf
      rw [hf]
      exact hc _ _ os K r h
    · cases h
  | len k x =>
    simp only [stOp] at h
    split at h
    · split at h
      · rename_i o hx
        refine ⟨⟨_, _⟩, ?_, h⟩
        simp only [evOp, lenV, hx]
        cases o <;> rfl
      · rename_i i hx
        obtain ⟨xs, h1, h2⟩ := elemsK_some h
        refine ⟨⟨_, _⟩, ?_, h2⟩
        simp only [evOp, lenV, hx, lenL]
        simp only [elems] at h1
        split at h1
        · rename_i hi; cases h1; simp only [hi]
        · rename_i hi; cases h1; simp only [hi]
        · cases h1
      · rename_i j sz lo n hx
        exact ⟨⟨_, _⟩, by simp only [evOp, lenV, hx, lenL], h⟩
      · cases h
    · split at h
      · rename_i n hn
        exact ⟨⟨_, _⟩, by simp only [evOp, hn], h⟩
      · cases h
  | app e sz s x => exact st_app h
  | _ =>
    simp only [stOp] at h
    exact goOp_some h
end
end Go.Ev
