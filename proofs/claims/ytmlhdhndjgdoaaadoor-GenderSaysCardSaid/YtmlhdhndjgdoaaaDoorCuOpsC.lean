/- The operations, third part: arithmetic, comparisons, conversions, cuts. -/
import Derived.Test.YtmlhdhndjgdoaaaDoorCuEq
import Derived.Laws.Build
import Derived.Laws.BytesString
import Derived.Laws.BytesArg
namespace Go.Ev

section
variable {P : Program} {S : Fz} {w : World}

theorem run_ari {op : BinOp} {t : TypeId} {x y : Operand} {a b c : V} {va vb : Value} (hn : op ≠ .eql ∧ op ≠ .neq ∨ ∃ d, P.underlying t = some d) (ha : Rep S a va) (hb : Rep S b vb) (h : ariV op a b = some c) :
    ∃ vc, (do eqGuard op t x y va vb; binOp op t va vb).run P w = .ok vc w ∧ Rep S c vc := by
  unfold ariV at h
  split at h
  · rename_i k n k' m
    cases ha; cases hb
    have hg : eqGuard op t x y (.int k n) (.int k' m) = pure () := by cases op <;> rfl
    rw [hg]
    split at h
    · simp only [shiftI] at h
      split at h
      · cases h
      · rename_i hm
        cases h
        refine ⟨_, ?_, .int _ _⟩
        simp [binOp, Op.shift, hm]
    · simp only [shiftI] at h
      split at h
      · cases h
      · rename_i hm
        cases h
        refine ⟨_, ?_, .int _ _⟩
        simp [binOp, Op.shift, hm]
    · rename_i h1 h2
      split at h
      · rename_i hk
        subst hk
        cases op <;> simp only [ariI] at h <;> try (first | cases h | (exact absurd rfl h1) | (exact absurd rfl h2))
        all_goals first
          | (refine ⟨_, ?_, .int _ _⟩; simp [binOp, Op.intArith, Op.intBits]; done)
          | (refine ⟨_, ?_, .bool _⟩; simp [binOp, Op.intCmp]; done)
          | (split at h
             · cases h
             · rename_i hz
               cases h
               refine ⟨_, ?_, .int _ _⟩
               simp [binOp, Op.intDiv, hz])
      · cases h
  · rename_i s u
    cases ha; cases hb
    have hg : eqGuard op t x y (.string ⟨s.toArray⟩) (.string ⟨u.toArray⟩) = pure () := by cases op <;> rfl
    rw [hg]
    cases op <;> simp only [ariS] at h <;> try (cases h; done)
    case add =>
      split at h
      · rename_i hl
        cases h
        refine ⟨.string ⟨(s ++ u).toArray⟩, ?_, .str _⟩
        have e : (⟨s.toArray⟩ : ByteArray) ++ ⟨u.toArray⟩ = ⟨(s ++ u).toArray⟩ := by
          have : ∀ a b : ByteArray, (a ++ b).data = a.data ++ b.data := fun a b => by simp
          have h2 := this ⟨s.toArray⟩ ⟨u.toArray⟩
          cases hh : (⟨s.toArray⟩ : ByteArray) ++ ⟨u.toArray⟩
          rw [hh] at h2
          simp at h2
          rw [h2]
        have hle : ((⟨s.toArray⟩ : ByteArray).size : Int) + ((⟨u.toArray⟩ : ByteArray).size : Int) ≤ 9223372036854775807 := by
          have e1 : (⟨s.toArray⟩ : ByteArray).size = s.length := by simp [ByteArray.size]
          have e2 : (⟨u.toArray⟩ : ByteArray).size = u.length := by simp [ByteArray.size]
          rw [e1, e2]
          unfold maxStr at hl
          omega
        simp [binOp, Op.stringOp, hle, e]
      · cases h
    all_goals
      cases h
      refine ⟨_, ?_, .bool _⟩
      simp [binOp, Op.stringOp]
  · cases h

end

section
variable {P : Program} {o : Oper} {ρ : Operand → Value} {w : World} {S : Fz} {σ : Locs} {os : Objs} {fr : List SV} {mm : Bool} {call : CallT} {s : SOp} {r : R}
variable (hρ : ∀ x y, cOpd x = some y → relS S σ (opd fr y) (ρ x)) (hs : HeapSim S σ os w)
include hρ hs

theorem done_ari {op : BinOp} {t u : TypeId} {x y : Operand} {a b : SOpd} (ho : o.op = .binOp op t x y u) (ha : cOpd x = some a) (hb : cOpd y = some b) (hn : op ≠ .eql ∧ op ≠ .neq ∨ ∃ d, P.underlying t = some d)
    (he : evOp mm call fr os (.ari op a b) = some r) : OpDone P (execOp ρ o) w (Post os σ S w r) := by
  simp only [evOp] at he
  split at he
  · rename_i va vb h1 h2
    split at he
    · rename_i c hc
      cases he
      have e1 := hρ x a ha
      have e2 := hρ y b hb
      rw [h1] at e1
      rw [h2] at e2
      obtain ⟨vc, h3, h4⟩ := run_ari (P := P) (w := w) (t := t) (x := x) (y := y) hn e1 e2 hc
      refine done_same hs ?_ h4
      simp only [execOp, ho]
      exact run_v h3
    · cases he
  · cases he

omit hρ hs in
theorem flatKT_some {t : TypeId} {kt : KT} (h : flatKT P t = some kt) : aggT P t = some kt.ag ∧ flatK P 8 t = some kt.ks := by
  unfold flatKT at h
  split at h
  · rename_i g ks h1 h2; cases h; exact ⟨h1, h2⟩
  · cases h

omit hρ hs in
/-- A value that is a key: its cells. -/
theorem keyCells_FV {kt : KT} {x : V} {v : Value} {cs : List V} (h : keyCells kt x = some cs) (hr : Rep S x v) : FV S kt.ag cs v ∧ cs.length = kt.ks.length := by
  unfold keyCells at h
  split at h
  · rename_i ds
    split at h
    · rename_i hc
      cases h
      obtain ⟨vs, rfl, hp⟩ := hr.of_agg
      rw [hc.1]
      exact ⟨⟨vs, rfl, hp⟩, hc.2⟩
    · cases h
  · cases h
  · split at h
    · rename_i hc
      cases h
      rw [hc.1]
      exact ⟨⟨x, rfl, hr⟩, hc.2.symm⟩
    · cases h

omit hρ hs in
theorem run_keyEq {t : TypeId} {kt : KT} {x y : V} {vx vy : Value} {b : Bool} (hk : flatKT P t = some kt) (hx : Rep S x vx) (hy : Rep S y vy) (h : keyEq kt x y = some b) (w : World) : (Op.equal t vx vy).run P w = .ok b w := by
  unfold keyEq at h
  split at h
  · rename_i cx cy h1 h2
    obtain ⟨k1, k2⟩ := flatKT_some hk
    obtain ⟨f1, l1⟩ := keyCells_FV h1 hx
    obtain ⟨f2, l2⟩ := keyCells_FV h2 hy
    exact eqFlat 8 t kt.ks k2 Op.maxDepth (by unfold Op.maxDepth; omega) w kt.ag cx cy vx vy b k1 l1 l2 f1 f2 h
  · cases h

omit hρ hs in
theorem flatK_guard {P : Program} : ∀ (n : Nat) (t : TypeId) (ks : List FK), flatK P n t = some ks → ∀ d, n ≤ d → P.eqGuardType d t = false := by
  intro n
  induction n with
  | zero => intro t ks h; simp [flatK] at h
  | succ n ih =>
    intro t ks h d hd
    obtain ⟨d, rfl⟩ : ∃ m, d = m + 1 := ⟨d - 1, by omega⟩
    unfold flatK at h
    unfold Program.eqGuardType
    split at h
    · rename_i k hu hk; simp [hu]
    · rename_i k hu hk; simp [hu]
    · rename_i k hu hk; simp [hu]
    · rename_i fs k hu hk
      split at h
      · split at h
        · rename_i ks' hks
          simp only [hu]
          rw [← Array.any_toList]
          have key : ∀ (l : List Field) (kl : List FK), fieldsK (flatK P n) l = some kl → (l.any fun f => f.name != "_" && P.eqGuardType d f.type) = false := by
            intro l
            induction l with
            | nil => intros; rfl
            | cons f l ihl =>
              intro kl hkl
              simp only [fieldsK] at hkl
              split at hkl
              · cases hkl
              · split at hkl
                · rename_i ka kb hka hkb
                  simp [ih f.type ka hka d (by omega), ihl kb hkb]
                · cases hkl
          exact key _ _ hks
        · cases h
      · cases h
    · rename_i m e k hu hk
      split at h
      · rename_i ks' m' h1 h2
        simp only [hu]
        exact ih e ks' h1 d (by omega)
      · cases h
    · cases h

/-- What a type must be for a kind of '=='. -/
def EqTy (P : Program) (t : TypeId) (x y : Operand) : EqK → Prop
  | .ptr => ∃ e, P.underlying t = some (.pointer e)
  | .slc => ∃ e, P.underlying t = some (.slice e)
  | .mp => ∃ k e, P.underlying t = some (.map k e)
  | .fn => ∃ a b c, P.underlying t = some (.func a b c)
  | .ifc => (∃ ms, P.underlying t = some (.interface ms)) ∧ (isNilConst x = true ∨ isNilConst y = true)
  | .flat kt => flatKT P t = some kt ∧ (P.underlying t = some .bool ∨ (aggT P t = some true ∧ 8 ≤ P.depth))

omit hρ hs in
theorem eqv_of {P : Program} {w : World} {t : TypeId} {x y : Operand} {vx vy : Value} {b : Bool} (h : ∀ d, (Op.equalIn (d + 1) t vx vy).run P w = .ok b w) (hg : ∀ op, eqGuard op t x y vx vy = pure ())
    (h1 : binOp .eql t vx vy = (do pure (.bool (← Op.equal t vx vy)))) (h2 : binOp .neq t vx vy = (do pure (.bool (!(← Op.equal t vx vy))))) :
    (do eqGuard .eql t x y vx vy; binOp .eql t vx vy).run P w = .ok (.bool b) w ∧ (do eqGuard .neq t x y vx vy; binOp .neq t vx vy).run P w = .ok (.bool !b) w := by
  have h : (Op.equal t vx vy).run P w = .ok b w := h 9999
  rw [hg, hg, h1, h2]
  exact ⟨by simp [h], by simp [h]⟩

set_option maxHeartbeats 1000000 in
omit hρ hs in
theorem run_eqV {k : EqK} {t : TypeId} {x y : Operand} {sx sy : SV} {vx vy : Value} {b : Bool} (hk : EqTy P t x y k) (hx : relS S σ sx vx) (hy : relS S σ sy vy) (h : eqV k sx sy = some b) (w : World) :
    (do eqGuard .eql t x y vx vy; binOp .eql t vx vy).run P w = .ok (.bool b) w ∧ (do eqGuard .neq t x y vx vy; binOp .neq t vx vy).run P w = .ok (.bool !b) w := by
  cases k with
  | flat kt =>
    cases sx with
    | a xa => cases xa with
      | v a => cases sy with
        | a ya => cases ya with
          | v c =>
            simp only [eqV] at h
            have hx : Rep S a vx := hx
            have hy : Rep S c vy := hy
            obtain ⟨hkt, hty⟩ := hk
            have hrun := run_keyEq hkt hx hy h w
            obtain ⟨k1, k2⟩ := flatKT_some hkt
            unfold keyEq at h
            split at h
            · rename_i ca cc h1 h2
              obtain ⟨f1, l1⟩ := keyCells_FV h1 hx
              obtain ⟨f2, l2⟩ := keyCells_FV h2 hy
              rcases hty with hb | ⟨ha, hd⟩
              · have hag : kt.ag = false := by simp [aggT, hb] at k1; exact k1
                have hks : kt.ks = [.b] := by
                  simp only [flatK, hb] at k2
                  split at k2 <;> simp_all
                rw [hag] at f1 f2
                rw [hks] at h
                obtain ⟨a', rfl, f1⟩ := f1
                obtain ⟨c', rfl, f2⟩ := f2
                cases a' <;> cases c' <;> simp [eqL, eqF] at h
                cases f1; cases f2
                simp [eqGuard, binOp, hrun]
              · rw [ha] at k1
                cases hag : kt.ag with
                | false => rw [hag] at k1; cases k1
                | true =>
                  rw [hag] at f1 f2
                  obtain ⟨va, rfl, _⟩ := f1
                  obtain ⟨vc, rfl, _⟩ := f2
                  have hgd : P.eqGuardType P.depth t = false := flatK_guard 8 t kt.ks k2 P.depth hd
                  simp [eqGuard, binOp, hrun, hgd]
            · cases h
          | _ => simp [eqV] at h
        | _ => simp [eqV] at h
      | _ => simp [eqV] at h
    | _ => simp [eqV] at h
  | ptr =>
    obtain ⟨e, hu⟩ := hk
    cases sx with
    | a xa => cases sy with
      | a ya =>
        cases xa with
        | v a =>
          cases a using V.cs <;> (try (simp [eqV] at h; done))
          · cases ya with
            | v c =>
              cases c using V.cs <;> simp [eqV] at h <;> subst h
              · have hx : Rep S .nilp vx := hx
                have hy : Rep S .nilp vy := hy
                cases hx; cases hy
                exact eqv_of (fun d => by simp [Op.equalIn, run_underlying hu]) (fun op => by cases op <;> rfl) rfl rfl
              · have hx : Rep S .nilp vx := hx
                have hy : Rep S (.ptr _) vy := hy
                cases hx; cases hy
                exact eqv_of (fun d => by simp [Op.equalIn, run_underlying hu]) (fun op => by cases op <;> rfl) rfl rfl
            | loc i q =>
              simp [eqV] at h; subst h
              have hx : Rep S .nilp vx := hx
              obtain ⟨L, _, rfl⟩ := hy
              cases hx
              exact eqv_of (fun d => by simp [Op.equalIn, run_underlying hu]) (fun op => by cases op <;> rfl) rfl rfl
            | _ => simp [eqV] at h
          · cases ya with
            | v c =>
              cases c using V.cs <;> simp [eqV] at h
              subst h
              have hx : Rep S (.ptr _) vx := hx
              have hy : Rep S .nilp vy := hy
              cases hx; cases hy
              exact eqv_of (fun d => by simp [Op.equalIn, run_underlying hu]) (fun op => by cases op <;> rfl) rfl rfl
            | _ => simp [eqV] at h
        | loc i q =>
          cases ya with
          | v c =>
            cases c using V.cs <;> simp [eqV] at h
            subst h
            have hy : Rep S .nilp vy := hy
            obtain ⟨L, _, rfl⟩ := hx
            cases hy
            exact eqv_of (fun d => by simp [Op.equalIn, run_underlying hu]) (fun op => by cases op <;> rfl) rfl rfl
          | _ => simp [eqV] at h
        | _ => simp [eqV] at h
      | _ => simp [eqV] at h
    | _ => simp [eqV] at h
  | slc =>
    obtain ⟨e, hu⟩ := hk
    cases sx with
    | a xa => cases sy with
      | a ya =>
        cases ya with
        | v c =>
          cases c using V.cs with
          | nils =>
            have hy : Rep S .nils vy := hy
            cases hy
            cases xa with
            | v a =>
              have hx : Rep S a vx := hx
              cases a using V.cs with
              | nils =>
                simp [eqV] at h
                subst h
                cases hx
                exact eqv_of (fun d => by simp [Op.equalIn, run_underlying hu]) (fun op => by cases op <;> rfl) rfl rfl
              | list xs =>
                cases xs with
                | nil => simp [eqV] at h
                | cons z zs =>
                  simp [eqV] at h
                  subst h
                  cases hx
                  exact eqv_of (fun d => by simp [Op.equalIn, run_underlying hu]) (fun op => by cases op <;> rfl) rfl rfl
              | _ => simp [eqV] at h
            | own i =>
              simp [eqV] at h; subst h
              obtain ⟨L, _, rfl⟩ := hx
              exact eqv_of (fun d => by simp [Op.equalIn, run_underlying hu]) (fun op => by cases op <;> rfl) rfl rfl
            | _ => simp [eqV] at h
          | _ => cases xa with
            | v a => cases a using V.cs <;> simp [eqV] at h
            | _ => simp [eqV] at h
        | _ => cases xa with
          | v a => cases a using V.cs <;> simp [eqV] at h
          | _ => simp [eqV] at h
      | _ => cases xa with
        | v a => cases a using V.cs <;> simp [eqV] at h
        | _ => simp [eqV] at h
    | _ => simp [eqV] at h
  | mp =>
    obtain ⟨ke, e, hu⟩ := hk
    cases sx with
    | a xa => cases sy with
      | a ya =>
        cases ya with
        | v c =>
          cases c using V.cs with
          | nilm =>
            have hy : Rep S .nilm vy := hy
            cases hy
            cases xa with
            | v a =>
              have hx : Rep S a vx := hx
              cases a using V.cs <;> simp [eqV] at h <;> subst h <;> cases hx <;> exact eqv_of (fun d => by simp [Op.equalIn, run_underlying hu]) (fun op => by cases op <;> rfl) rfl rfl
            | mapr i =>
              simp [eqV] at h; subst h
              obtain ⟨L, _, rfl⟩ := hx
              exact eqv_of (fun d => by simp [Op.equalIn, run_underlying hu]) (fun op => by cases op <;> rfl) rfl rfl
            | _ => simp [eqV] at h
          | _ => cases xa with
            | v a => cases a using V.cs <;> simp [eqV] at h
            | _ => simp [eqV] at h
        | _ => cases xa with
          | v a => cases a using V.cs <;> simp [eqV] at h
          | _ => simp [eqV] at h
      | _ => cases xa with
        | v a => cases a using V.cs <;> simp [eqV] at h
        | _ => simp [eqV] at h
    | _ => simp [eqV] at h
  | fn =>
    obtain ⟨_, _, _, hu⟩ := hk
    cases sy with
    | a ya =>
      cases ya with
      | v c =>
        cases c using V.cs with
        | nilf =>
          have hy : Rep S .nilf vy := hy
          cases hy
          cases sx with
          | a xa =>
            cases xa with
            | v a =>
              have hx : Rep S a vx := hx
              cases a using V.cs <;> simp [eqV] at h
              subst h
              cases hx
              exact eqv_of (fun d => by simp [Op.equalIn, run_underlying hu]) (fun op => by cases op <;> rfl) rfl rfl
            | _ => simp [eqV] at h
          | clo f c1 c2 =>
            simp [eqV] at h; subst h
            obtain ⟨va, vb, rfl, _⟩ := hx
            exact eqv_of (fun d => by simp [Op.equalIn, run_underlying hu]) (fun op => by cases op <;> rfl) rfl rfl
          | _ => simp [eqV] at h
        | _ => cases sx with
          | a xa => cases xa with
            | v a => cases a using V.cs <;> simp [eqV] at h
            | _ => simp [eqV] at h
          | _ => simp [eqV] at h
      | _ => cases sx with
        | a xa => cases xa with
          | v a => cases a using V.cs <;> simp [eqV] at h
          | _ => simp [eqV] at h
        | _ => simp [eqV] at h
    | _ => cases sx with
      | a xa => cases xa with
        | v a => cases a using V.cs <;> simp [eqV] at h
        | _ => simp [eqV] at h
      | _ => simp [eqV] at h
  | ifc =>
    obtain ⟨⟨ms, hu⟩, hcst⟩ := hk
    cases sx with
    | a xa => cases sy with
      | a ya => cases xa with
        | v a => cases ya with
          | v c =>
            have hx : Rep S a vx := hx
            have hy : Rep S c vy := hy
            cases a using V.cs <;> (try (simp [eqV] at h; done)) <;> cases c using V.cs <;> simp [eqV] at h <;> subst h <;> cases hx <;> cases hy
            · exact eqv_of (fun d => by simp [Op.equalIn, run_underlying hu]) (fun op => by cases op <;> rfl) rfl rfl
            · have hg : ∀ op, eqGuard op t x y .nilIface .nilIface = pure () := fun op => by
                rcases hcst with hc | hc
                · cases x <;> simp [isNilConst] at hc
                  exact eqGuard_nil_constL _ _ _ _
                · cases y <;> simp [isNilConst] at hc
                  exact eqGuard_nil_constR _ _ _ _
              exact eqv_of (fun d => by simp [Op.equalIn, run_underlying hu]) hg rfl rfl
          | _ => cases a using V.cs <;> simp [eqV] at h
        | _ => simp [eqV] at h
      | _ => cases xa with
        | v a => cases a using V.cs <;> simp [eqV] at h
        | _ => simp [eqV] at h
    | _ => simp [eqV] at h

theorem done_eq {neg : Bool} {op : BinOp} {t u : TypeId} {x y : Operand} {a b : SOpd} {k : EqK} (hop : op = if neg then .neq else .eql) (ho : o.op = .binOp op t x y u) (ha : cOpd x = some a) (hb : cOpd y = some b) (hk : EqTy P t x y k)
    (he : evOp mm call fr os (.eq neg k a b) = some r) : OpDone P (execOp ρ o) w (Post os σ S w r) := by
  simp only [evOp] at he
  split at he
  · rename_i bb h
    cases he
    obtain ⟨r1, r2⟩ := run_eqV hk (hρ x a ha) (hρ y b hb) h w
    cases neg with
    | true =>
      simp only [if_true] at hop
      subst hop
      refine done_same (v := .bool !bb) hs ?_ (.bool _)
      simp only [execOp, ho]
      exact run_v r2
    | false =>
      simp only [Bool.false_eq_true, if_false] at hop
      subst hop
      refine done_same (v := .bool bb) hs ?_ (.bool _)
      simp only [execOp, ho]
      exact run_v r1
  · cases he

theorem ok_bin {op : BinOp} {t u : TypeId} {x y : Operand} (ho : o.op = .binOp op t x y u) (hc : cOp P o.op = some s) (he : evOp mm call fr os s = some r) : OpDone P (execOp ρ o) w (Post os σ S w r) := by
  rw [ho] at hc
  have eqs : ∀ neg, op = (if neg then .neq else .eql) → cEq P neg t x y = some s → OpDone P (execOp ρ o) w (Post os σ S w r) := by
    intro neg hop hcq
    unfold cEq at hcq
    split at hcq
    · rename_i a b d ha hb hu
      split at hcq
      · cases hcq; rw [hop] at ho; exact done_ari hρ hs ho ha hb (.inr ⟨_, hu⟩) he
      · cases hcq; rw [hop] at ho; exact done_ari hρ hs ho ha hb (.inr ⟨_, hu⟩) he
      · split at hcq
        · rename_i kt hkt; cases hcq; exact done_eq hρ hs (k := .flat kt) hop ho ha hb ⟨hkt, .inl hu⟩ he
        · cases hcq
      · cases hcq; exact done_eq hρ hs (k := .ptr) hop ho ha hb ⟨_, hu⟩ he
      · cases hcq; exact done_eq hρ hs (k := .slc) hop ho ha hb ⟨_, hu⟩ he
      · cases hcq; exact done_eq hρ hs (k := .mp) hop ho ha hb ⟨_, _, hu⟩ he
      · cases hcq; exact done_eq hρ hs (k := .fn) hop ho ha hb ⟨_, _, _, hu⟩ he
      · split at hcq
        · rename_i hn
          cases hcq
          exact done_eq hρ hs (k := .ifc) hop ho ha hb ⟨⟨_, hu⟩, by simpa using hn⟩ he
        · cases hcq
      · split at hcq
        · rename_i hd
          split at hcq
          · rename_i kt hkt; cases hcq; exact done_eq hρ hs (k := .flat kt) hop ho ha hb ⟨hkt, .inr ⟨by simp [aggT, hu], hd⟩⟩ he
          · cases hcq
        · cases hcq
      · split at hcq
        · rename_i hd
          split at hcq
          · rename_i kt hkt; cases hcq; exact done_eq hρ hs (k := .flat kt) hop ho ha hb ⟨hkt, .inr ⟨by simp [aggT, hu], hd⟩⟩ he
          · cases hcq
        · cases hcq
      · cases hcq
    · cases hcq
  cases op <;> first
    | exact eqs false rfl hc
    | exact eqs true rfl hc
    | (obtain ⟨a, b, ha, hb, hf⟩ := un2_some (by simpa only [cOp] using hc)
       cases hf
       exact done_ari hρ hs ho ha hb (.inl ⟨by simp, by simp⟩) he)

end
end Go.Ev
