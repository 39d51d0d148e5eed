/- Regions whose order is open, last part: every order comes to the same. -/
import Derived.Test.YtmlhdhndjgdoaaaDoorCuDraw2
namespace Go.Ev

section
variable {P : Program} {mm : Bool} {call : CallT} {n0 : Nat} {G : Globs}

theorem region_ok (hm : P.follows .mixedOrders = true) (hcall : CallOK P G call) : RegionOK P G mm call n0 := by
  intro id ops draw l st st' S0 σ0 a0 w0 hl he hG0 hs0 hn0
  cases draw with
  | false =>
    simp only [evRegion, Bool.false_eq_true, if_false] at he
    refine wp_region ?_
    rw [List.range_eq_range']
    have := ops_ok (P := P) (mm := mm) (n0 := n0) hcall (ops := ops) (Q := CodeQ n0 st.objs σ0 S0 w0 .n st') ops.toList l 0 st st' S0 σ0 a0 w0 rfl hl he hG0 hs0 hn0 fun a' w' hL => ⟨rfl, hL.len, hL⟩
    simpa using this
  | true =>
    simp only [evRegion, if_true] at he
    generalize hps : closure l [] = ps at he
    split at he
    · rename_i hchk
      simp only [Bool.and_eq_true] at hchk
      obtain ⟨hord, huses⟩ := hchk
      split at he
      · rename_i st1 ds hev
        split at he
        · rename_i hfoot
          cases he
          obtain ⟨hdl, hch, hst', hat⟩ := evDraw_at l st st' ds 0 hev
          obtain ⟨hll, hops⟩ := cOps_at (P := P) ops.toList l hl
          have hcl := (closure_spec l []).2
          rw [hps] at hcl
          simp only [List.length_nil, Nat.zero_add] at hcl
          -- the first world
          have hgrow : ∀ b, b < w0.heap.size → ({ w0 with drawn := w0.drawn + 1 } : World).heap[b]? = w0.heap[b]? := fun _ _ => rfl
          -- the invariant
          let stF (E : Nat → Bool) : St := stE E ds 0 st
          let Inv (E : Nat → Bool) (a : Act) (w : World) : Prop := ∃ S σ, Sim S σ (stF E) a w ∧ Fr n0 st.objs σ0 S0 w0 (stF E).objs σ S w ∧ ∀ (j : Nat) (d : DStep), ds[j]? = some d → E j = false → ∀ k, d.n ≤ k → k < d.objs.length → σ k = none
          have spec := fun E => stE_spec E ds 0 st hch
          have hlenO : ∀ E E', (stF E).objs.length = (stF E').objs.length := fun E E' => by rw [(spec E).2.1, (spec E').2.1]
          have hlenF : ∀ E, (stF E).fr.length = st.fr.length := fun E => (spec E).2.2.2
          -- chains: lengths
          have hchn : ∀ (ds : List DStep) (n : Nat), Chain ds n → n ≤ lastN ds n ∧ ∀ (j : Nat) (d : DStep), ds[j]? = some d → n ≤ d.n ∧ d.objs.length ≤ lastN ds n ∧ d.n ≤ lastN ds n := by
            intro ds
            induction ds with
            | nil => intro n _; exact ⟨Nat.le_refl _, fun j d h => by simp at h⟩
            | cons d r ih =>
              intro n ⟨c1, c2, c3⟩
              obtain ⟨i1, i2⟩ := ih _ c3
              refine ⟨by simp only [lastN]; omega, fun j d' hd => ?_⟩
              simp only [lastN]
              cases j with
              | zero => simp at hd; subst hd; exact ⟨by omega, by omega, by omega⟩
              | succ j => obtain ⟨k1, k2, k3⟩ := i2 j d' (by simpa using hd); exact ⟨by omega, k2, k3⟩
          have hchr : ∀ (ds : List DStep) (n : Nat), Chain ds n → ∀ (i j : Nat) (d d' : DStep), ds[i]? = some d → ds[j]? = some d' → i < j → d.objs.length ≤ d'.n := by
            intro ds
            induction ds with
            | nil => intro n _ i j d d' h; simp at h
            | cons d0 r ih =>
              intro n ⟨c1, c2, c3⟩ i j d d' hi hj hij
              cases j with
              | zero => omega
              | succ j =>
                cases i with
                | zero =>
                  simp at hi hj
                  subst hi
                  have := ((hchn r _ c3).2 j d' hj).1
                  omega
                | succ i => exact ih _ c3 i j d d' (by simpa using hi) (by simpa using hj) (by omega)
          have hallN := hchn ds st.objs.length hch
          -- one operation
          have stepInv : ∀ (E : Nat → Bool) (j : Nat) (o : Oper) (so : SOper) (a : Act) (w : World) (K : Act → World → Prop), ops[j]? = some o → l[j]? = some so → so.dst = o.dst → so.op = cOpB P o.op →
              (match o.guard with | none => so.guard = none | some (j, want) => ∃ t, (ops[j]?).bind (·.dst) = some t ∧ so.guard = some (t, want)) → E j = false → (∀ i, i < j → E i = false → i ∉ ps.getD j []) → (∀ i, j < i → E i = true → j ∉ ps.getD i []) →
              Inv E a w → (∀ a' w', Inv (fun i => E i || decide (i = j)) a' w' → K a' w') → wpOp P ops (CodeQ n0 st.objs σ0 S0 w0 .n st') j K a w := by
            intro E j o so a w K hoj hso hdst hop hgd hEj hA hB hI hK
            obtain ⟨S, σ, hsim, hfr, hfree⟩ := hI
            obtain ⟨d, s1, hd, hok, hs1l, hs1o, hs1f⟩ := hat j so hso
            simp only [Nat.zero_add] at hs1o hs1f
            have hdd : d.dst = o.dst := hok.dst.trans hdst
            -- pairs
            have pairA : ∀ {i : Nat} {di : DStep}, ds[i]? = some di → i < j → E i = false → (∀ t, di.dst = some t → t ∉ so.uses ∧ d.dst ≠ some t) ∧ (∀ k ∈ di.wr, k ∉ d.rd) := by
              intro i di hdi hij hEi
              have hil : i < l.length := by rw [← hdl]; exact (List.getElem?_eq_some_iff.1 hdi).1
              obtain ⟨di', si, hdi', hoki, _⟩ := hat i l[i] (List.getElem?_eq_getElem hil)
              rw [hdi] at hdi'; cases hdi'
              have hu := usesOk_at huses hij (List.getElem?_eq_getElem hil) hso (hA i hij hEi)
              have hf := footOk_at hfoot hij hdi hd (hA i hij hEi)
              refine ⟨fun t ht => ?_, hf.1⟩
              rw [hoki.dst] at ht
              rw [hok.dst]
              exact hu.1 t ht
            have pairB : ∀ {i : Nat} {di : DStep}, ds[i]? = some di → j < i → E i = true → (∀ t, di.dst = some t → t ∉ so.uses ∧ d.dst ≠ some t) ∧ (∀ k ∈ di.wr, k ∉ d.rd) ∧ (∀ k ∈ d.wr, k ∉ di.wr) := by
              intro i di hdi hij hEi
              have hil : i < l.length := by rw [← hdl]; exact (List.getElem?_eq_some_iff.1 hdi).1
              obtain ⟨di', si, hdi', hoki, _⟩ := hat i l[i] (List.getElem?_eq_getElem hil)
              rw [hdi] at hdi'; cases hdi'
              have hu := usesOk_at huses hij hso (List.getElem?_eq_getElem hil) (hB i hij hEi)
              have hf := footOk_at hfoot hij hd hdi (hB i hij hEi)
              refine ⟨fun t ht => ?_, fun k hk hk2 => hf.2.2 k hk2 hk, hf.2.1⟩
              rw [hoki.dst] at ht
              refine ⟨hu.2 t ht, fun h => ?_⟩
              rw [hok.dst] at h
              exact (hu.1 t h).2 ht
            -- what the operation looks at is as in the list's order
            have looksS : ∀ t ∈ so.uses, nth (stF E).fr t = nth s1.fr t := by
              intro t ht
              rw [(spec E).2.2.1 t, hs1f t]
              split
              · refine curS_congr ds 0 _ fun i di hdi hne hdt => ?_
                simp only [Nat.zero_add] at hne
                rcases Nat.lt_or_ge i j with h | h
                · have hEi : E i = false := by simpa [h] using hne
                  exact ((pairA hdi h hEi).1 t hdt).1 ht
                · have hEi : E i = true := by simpa [Nat.not_lt.2 h] using hne
                  have hij : j < i := by
                    rcases Nat.lt_or_ge j i with h' | h'
                    · exact h'
                    · have : i = j := by omega
                      subst this; rw [hEj] at hEi; cases hEi
                  exact ((pairB hdi hij hEi).1 t hdt).1 ht
              · rfl
            have looksO : ∀ k ∈ d.rd, obj (stF E).objs k = obj s1.objs k := by
              intro k hk
              rw [(spec E).1 k, hs1o k]
              refine curO_congr ds 0 _ fun i di hdi hne hdt => ?_
              simp only [Nat.zero_add] at hne
              rcases Nat.lt_or_ge i j with h | h
              · have hEi : E i = false := by simpa [h] using hne
                exact (pairA hdi h hEi).2 k hdt hk
              · have hEi : E i = true := by simpa [Nat.not_lt.2 h] using hne
                have hij : j < i := by
                  rcases Nat.lt_or_ge j i with h' | h'
                  · exact h'
                  · have : i = j := by omega
                    subst this; rw [hEj] at hEi; cases hEi
                exact (pairB hdi hij hEi).2.1 k hdt hk
            -- behind it
            let E' : Nat → Bool := fun i => E i || decide (i = j)
            have hE'j : E' j = true := by simp [E']
            have hE'o : ∀ i, i ≠ j → E' i = E i := fun i hi => by simp [E', hi]
            have newO : ∀ k, obj (stF E').objs k = if k ∈ d.wr then obj d.objs k else obj (stF E).objs k := by
              intro k
              rw [(spec E').1 k, (spec E).1 k]
              split
              · rename_i hk
                refine curO_last ds 0 j d _ hd (by simpa using hE'j) hk fun i di hij hdi hEi => ?_
                simp only [Nat.zero_add] at hEi
                rw [hE'o i (by omega)] at hEi
                exact (pairB hdi hij hEi).2.2 k hk
              · rename_i hk
                refine curO_congr ds 0 _ fun i di hdi hne => ?_
                simp only [Nat.zero_add] at hne
                have hij : i = j := by
                  by_cases h : i = j
                  · exact h
                  · exact absurd (hE'o i h) hne
                subst hij
                rw [hd] at hdi; cases hdi
                exact hk
            have newS : ∀ t, nth (stF E').fr t = nth (put (stF E).fr o.dst d.sv) t := by
              intro t
              rw [nth_put, hlenF, (spec E').2.2.1 t, (spec E).2.2.1 t]
              split
              · rename_i ht
                split
                · rename_i hdt
                  refine curS_last ds 0 j d _ hd (by simpa using hE'j) (hdd.trans hdt) fun i di hij hdi hEi hdi2 => ?_
                  simp only [Nat.zero_add] at hEi
                  rw [hE'o i (by omega)] at hEi
                  exact ((pairB hdi hij hEi).1 t hdi2).2 (hdd.trans hdt)
                · rename_i hdt
                  refine curS_congr ds 0 _ fun i di hdi hne => ?_
                  simp only [Nat.zero_add] at hne
                  have hij : i = j := by
                    by_cases h : i = j
                    · exact h
                    · exact absurd (hE'o i h) hne
                  subst hij
                  rw [hd] at hdi; cases hdi
                  rw [hdd]; exact hdt
              · rfl
            have newF : ∀ {S2 : Fz} {σ2 : Locs} {v : Value}, FrameSim S2 σ2 (stF E).fr a → relS S2 σ2 d.sv v → FrameSim S2 σ2 (stF E').fr (a.put o.dst v) := fun hf hv => (hf.put o.dst hv).congr (by rw [put_length, hlenF, hlenF]) newS
            -- is it wanted?
            have hwant : wants (stF E).fr so.guard = wants s1.fr so.guard := by
              cases hg : so.guard with
              | none => rfl
              | some p =>
                obtain ⟨t, want⟩ := p
                have : t ∈ so.uses := by simp [SOper.uses, hg]
                simp only [wants, looksS t this]
            unfold wpOp
            rw [hoj]
            simp only
            rcases hok.how with ⟨h1, h2, h3, h4, h5⟩ | ⟨h1, y, h2, h3, h4, h5, h6, h7, h8, h9, h10⟩
            · have hww := wants_ok hsim.frame hgd (hwant.trans h1)
              rw [if_neg (by simp [hww])]
              refine hK _ _ ⟨S, σ, ⟨?_, ?_⟩, ?_, ?_⟩
              · exact hsim.heap.congr (hlenO _ _) fun k => by rw [newO k, h4]; simp
              · exact newF hsim.frame (h2 ▸ void_undef)
              · exact hfr.congr (hlenO _ _) fun k => by rw [newO k, h4]; simp
              · intro i di hdi hEi k hk1 hk2
                refine hfree i di hdi ?_ k hk1 hk2
                simp at hEi
                exact hEi.1
            · have hww := wants_ok hsim.frame hgd (hwant.trans h1)
              rw [if_pos hww]
              left
              have hN : d.n = s1.objs.length := hok.n
              -- the frame that it saw
              have hfS : FrameSim S (fun i => if i < s1.objs.length then σ i else none) (scrub so.uses 0 s1.fr) a := by
                refine ⟨fun t => ?_, ?_, hsim.frame.defers⟩
                · have hids : ∀ i ∈ (nth (scrub so.uses 0 s1.fr) t).ids, i < s1.objs.length := by
                    intro i hi
                    refine h6 i (List.mem_flatMap.2 ⟨nth (scrub so.uses 0 s1.fr) t, ?_, hi⟩)
                    rw [nth_eq, List.getD_eq_getElem?_getD] at hi ⊢
                    cases hq : (scrub so.uses 0 s1.fr)[t]? with
                    | none => rw [hq] at hi; simp [SV.ids] at hi
                    | some x => exact List.mem_of_getElem? hq
                  refine relS_ids (σ := σ) (fun i hi => by simp [hids i hi]) ?_
                  rw [nth_scrub', Nat.zero_add]
                  split
                  · rename_i hc
                    rw [← looksS t (by simpa using hc)]
                    exact hsim.frame.rel t
                  · exact trivial
                · rw [scrub_length, hs1l]
                  have := hsim.frame.len
                  rwa [hlenF] at this
              -- the objects that it saw
              have hmk : ∀ k, obj (mask d.rd 0 s1.objs) k = if k ∈ d.rd then obj (stF E).objs k else none := by
                intro k
                rw [(mask_spec d.rd s1.objs 0).2 k, Nat.zero_add]
                by_cases hk : k ∈ d.rd
                · rw [if_pos (by simpa using hk), if_pos hk, looksO k hk]
                · rw [if_neg (by simpa using hk), if_neg hk]
              have hml : (mask d.rd 0 s1.objs).length = s1.objs.length := (mask_spec d.rd s1.objs 0).1
              have hhS : HeapSim S (fun i => if i < s1.objs.length then σ i else none) (mask d.rd 0 s1.objs) w := by
                have hlt : ∀ {k : Nat} {x : LObj}, obj (mask d.rd 0 s1.objs) k = some x → k < s1.objs.length ∧ obj (stF E).objs k = some x := fun {k x} hx => by
                  refine ⟨by rw [← hml]; exact obj_lt hx, ?_⟩
                  rw [hmk] at hx
                  split at hx
                  · exact hx
                  · cases hx
                refine ⟨hsim.heap.frz, fun k x hx => ?_, fun i k x x' L L' hx hx' hL hL' hb => ?_, fun i hi => ?_⟩
                · obtain ⟨q1, q2⟩ := hlt hx
                  obtain ⟨L, p1, p2, p3⟩ := hsim.heap.ob k x q2
                  refine ⟨L, by simp [q1, p1], obj_ids (σ := σ) (fun i hi => ?_) p2, p3⟩
                  have : i < s1.objs.length := by
                    refine h7 i (List.mem_flatMap.2 ⟨some x, ?_, hi⟩)
                    have : (mask d.rd 0 s1.objs)[k]? = some (some x) := by
                      unfold obj at hx
                      split at hx
                      · rename_i o' ho'; cases hx; exact ho'
                      · cases hx
                    exact List.mem_of_getElem? this
                  simp [this]
                · obtain ⟨q1, q2⟩ := hlt hx
                  obtain ⟨q3, q4⟩ := hlt hx'
                  simp [q1] at hL
                  simp [q3] at hL'
                  exact hsim.heap.inj i k x x' L L' q2 q4 hL hL' hb
                · rw [hml] at hi
                  simp [Nat.not_lt.2 hi]
              rw [hop] at h2
              refine (ok_op hfS.opd hhS (hfr.le.g.trans hG0) hcall h2).wp fun v w' hpost => ?_
              obtain ⟨S', σ', q1, q2, q3⟩ := hpost
              rw [hml] at q3
              have hlast := (hallN.2 j d hd)
              have hos : (stF E').objs.length = (stF E).objs.length := hlenO _ _
              have hEl : (stF E).objs.length = lastN ds st.objs.length := (spec E).2.1
              have hcomb := combine (n0 := n0) (q := d.rd) (os' := (stF E').objs) hsim.heap hmk hml (by rw [← hN]; have := hlast.1; omega) q1 q2 q3 (by rw [← h4, hEl]; exact hlast.2.1) (fun k k1 k2 => hfree j d hd hEj k (by rw [hN]; exact k1) (by rw [h4]; exact k2)) hos (fun k => by
                rw [newO k, h4]
                by_cases hk : k ∈ d.wr
                · rw [if_pos hk, if_pos (h8 k hk)]
                · rw [if_neg hk]
                  split
                  · rename_i hc
                    rcases hc with ⟨c1, c2⟩ | ⟨c1, c2⟩
                    · rw [h10 k c1 c2 hk, looksO k c1]
                    · exact absurd (h9 k c1 c2) hk
                  · rfl)
              obtain ⟨c1, c2, c3, c4⟩ := hcomb
              refine hK _ _ ⟨S', _, ⟨c1, newF (hsim.frame.mono q3.le c4) (h3 ▸ c2)⟩, hfr.trans c3, ?_⟩
              intro i di hdi hEi k hk1 hk2
              simp only [Bool.or_eq_false_iff, decide_eq_false_iff_not] at hEi
              have hout : ¬ (s1.objs.length ≤ k ∧ k < y.objs.length) := by
                rintro ⟨r1, r2⟩
                rcases Nat.lt_or_ge i j with h | h
                · have := hchr ds _ hch i j di d hdi hd h
                  omega
                · have hij : j < i := by omega
                  have := hchr ds _ hch j i d di hd hdi hij
                  rw [h4] at this
                  omega
              simp only [if_neg hout]
              exact hfree i di hdi hEi.1 k hk1 hk2
          -- closed sets
          have down : ∀ (E : Nat → Bool), (∀ (i : Nat) (so : SOper), l[i]? = some so → E i = true → ∀ p ∈ so.preds, E p = true) → ∀ (n i : Nat) (so : SOper), i < n → l[i]? = some so → (∀ p ∈ so.preds, E p = true) → ∀ x ∈ ps.getD i [], E x = true := by
            intro E hE n
            induction n with
            | zero => intro i so h; omega
            | succ n ih =>
              intro i so hi hso hp x hx
              rcases hcl i so hso x hx with h | ⟨p, h1, h2, h3⟩
              · exact hp x h
              · have hpl : p < l.length := by
                  have := (List.getElem?_eq_some_iff.1 hso).1
                  omega
                exact ih p l[p] (by omega) (List.getElem?_eq_getElem hpl) (hE p l[p] (List.getElem?_eq_getElem hpl) (hp p h1)) x h3
          -- all orders
          have all : ∀ (fuel : Nat) (listed : Array Bool) (a : Act) (w : World), listed.size = ops.size → (((List.range ops.size).filter fun i => !listed.getD i false).length = fuel) →
              (∀ (i : Nat) (so : SOper), l[i]? = some so → listed.getD i false = true → ∀ p ∈ so.preds, listed.getD p false = true) → Inv (fun i => listed.getD i false) a w →
              wpAny P .any ops (CodeQ n0 st.objs σ0 S0 w0 .n st') fuel listed a w := by
            intro fuel
            induction fuel with
            | zero =>
              intro listed a w hsz hcnt hdown hI
              have hall : ∀ i, i < ops.size → listed.getD i false = true := by
                intro i hi
                have hnil := List.eq_nil_of_length_eq_zero hcnt
                rw [List.filter_eq_nil_iff] at hnil
                simpa using hnil i (List.mem_range.2 hi)
              have hready : Region.ready .any ops listed = [] := by
                apply List.eq_nil_iff_forall_not_mem.2
                intro i hi
                rw [mem_ready] at hi
                obtain ⟨h1, o, ho, _⟩ := hi
                have hlt := (Array.getElem?_eq_some_iff.1 ho).1
                have := hall i hlt
                simp [Array.getElem?_eq_getElem (show i < listed.size by omega)] at h1 this
                rw [h1] at this; cases this
              refine ⟨hready, ?_⟩
              obtain ⟨S, σ, h1, h2, _⟩ := hI
              have heqO : ∀ k, obj (stF fun i => listed.getD i false).objs k = obj st'.objs k := by
                intro k
                rw [hst', (spec _).1 k, (spec (fun _ => true)).1 k]
                refine curO_congr ds 0 _ fun i di hdi hne => ?_
                have hlt : i < ops.size := by
                  have := (List.getElem?_eq_some_iff.1 hdi).1
                  rw [hdl, hll] at this; simpa using this
                simp only [Nat.zero_add] at hne
                exact absurd (hall i hlt) hne
              have heqS : ∀ t, nth st'.fr t = nth (stF fun i => listed.getD i false).fr t := by
                intro t
                rw [hst', (spec (fun _ => true)).2.2.1 t, (spec (fun i => listed.getD i false)).2.2.1 t]
                split
                · refine curS_congr ds 0 _ fun i di hdi hne => ?_
                  have hlt : i < ops.size := by
                    have := (List.getElem?_eq_some_iff.1 hdi).1
                    rw [hdl, hll] at this; simpa using this
                  simp only [Nat.zero_add] at hne
                  exact absurd (hall i hlt).symm hne
                · rfl
              have hlo : st'.objs.length = (stF fun i => listed.getD i false).objs.length := by rw [hst']; exact hlenO _ _
              have hlf : st'.fr.length = (stF fun i => listed.getD i false).fr.length := by rw [hst']; exact (hlenF _).trans (hlenF _).symm
              have hfin : Fr n0 st.objs σ0 S0 w0 st'.objs σ S w := h2.congr hlo fun k => (heqO k).symm
              exact ⟨rfl, hfin.len, S, σ, ⟨h1.heap.congr hlo fun k => (heqO k).symm, h1.frame.congr hlf heqS⟩, hfin⟩
            | succ fuel ih =>
              intro listed a w hsz hcnt hdown hI
              have hgetT : ∀ i, i < ops.size → listed.getD i true = listed.getD i false := fun i hi => by
                simp [Array.getElem?_eq_getElem (show i < listed.size by omega)]
              refine ⟨fun hready => ?_, fun j hj => ?_⟩
              · -- there is one that is ready
                exfalso
                have hex : ∃ i, i < ops.size ∧ listed.getD i false = false := by
                  cases hf : (List.range ops.size).filter fun i => !listed.getD i false with
                  | nil => rw [hf] at hcnt; simp at hcnt
                  | cons i r =>
                    have hi : i ∈ (List.range ops.size).filter fun i => !listed.getD i false := by rw [hf]; simp
                    rw [List.mem_filter] at hi
                    exact ⟨i, List.mem_range.1 hi.1, by simpa using hi.2⟩
                have hmin : ∀ n, (∃ i, i < n ∧ i < ops.size ∧ listed.getD i false = false) → ∃ i, i < ops.size ∧ listed.getD i false = false ∧ ∀ k, k < i → listed.getD k false = true := by
                  intro n
                  induction n with
                  | zero => rintro ⟨i, h, _⟩; omega
                  | succ n ihn =>
                    rintro ⟨i, h1, h2, h3⟩
                    by_cases hc : ∃ i, i < n ∧ i < ops.size ∧ listed.getD i false = false
                    · exact ihn hc
                    · refine ⟨i, h2, h3, fun k hk => ?_⟩
                      cases hq : listed.getD k false with
                      | true => rfl
                      | false => exact absurd ⟨k, by omega, by omega, hq⟩ hc
                obtain ⟨i, hi, hif⟩ := hex
                obtain ⟨j, hj, hjf, hjm⟩ := hmin (i + 1) ⟨i, Nat.lt_succ_self i, hi, hif⟩
                have hoj : ops[j]? = some ops[j] := Array.getElem?_eq_getElem hj
                obtain ⟨so, hso, _, _, _, hpr⟩ := hops j ops[j] (by simp [hoj])
                have : j ∈ Region.ready .any ops listed := by
                  rw [mem_ready]
                  refine ⟨by rw [hgetT j hj]; exact hjf, ops[j], hoj, fun e he hb => ?_⟩
                  have hp : e.on ∈ so.preds := by
                    rw [hpr]
                    exact List.mem_map.2 ⟨e, List.mem_filter.2 ⟨by simpa using he, hb⟩, rfl⟩
                  have := ordered_at hord j so hso e.on hp
                  exact hjm e.on (by omega)
                rw [hready] at this
                cases this
              · rw [mem_ready] at hj
                obtain ⟨hj1, o, hoj, hj2⟩ := hj
                have hjlt : j < ops.size := (Array.getElem?_eq_some_iff.1 hoj).1
                obtain ⟨so, hso, hs1, hs2, hs3, hs4⟩ := hops j o (by simpa using hoj)
                have hjf : listed.getD j false = false := by rw [← hgetT j hjlt]; exact hj1
                have hpj : ∀ p ∈ so.preds, listed.getD p false = true := by
                  intro p hp
                  rw [hs4] at hp
                  obtain ⟨e, he, rfl⟩ := List.mem_map.1 hp
                  rw [List.mem_filter] at he
                  exact hj2 e (by simpa using he.1) he.2
                refine stepInv (fun i => listed.getD i false) j o so a w _ hoj hso hs1 hs2 hs3 hjf (fun i hij hEi hmem => ?_) (fun i hij hEi hmem => ?_) hI fun a' w' hI' => ?_
                · have := down (fun i => listed.getD i false) hdown (j + 1) j so (Nat.lt_succ_self j) hso hpj i hmem
                  rw [this] at hEi; cases hEi
                · have hil : i < l.length := by
                    rcases Nat.lt_or_ge i l.length with h | h
                    · exact h
                    · exfalso
                      have hge : ops.size ≤ i := by rw [hll] at h; simpa using h
                      rw [Array.getD_eq_getD_getElem?, Array.getElem?_eq_none (by omega)] at hEi
                      cases hEi
                  have := down (fun i => listed.getD i false) hdown (i + 1) i l[i] (Nat.lt_succ_self i) (List.getElem?_eq_getElem hil) (hdown i l[i] (List.getElem?_eq_getElem hil) hEi) j hmem
                  rw [this] at hjf; cases hjf
                · have hEE : (fun i => (listed.setIfInBounds j true).getD i false) = fun i => (fun i => listed.getD i false) i || decide (i = j) := by
                    funext i
                    by_cases hij : j = i
                    · subst hij
                      simp [show j < listed.size by omega]
                    · rw [getD_set_ne false hij]
                      simp [Ne.symm hij]
                  refine ih _ a' w' (by simp [hsz]) ?_ ?_ (by rw [hEE]; exact hI')
                  · have hfe : (fun i => !(listed.setIfInBounds j true).getD i false) = fun i => (!listed.getD i false) && decide (i ≠ j) := by
                      funext i
                      have := congrFun hEE i
                      simp only at this
                      rw [this]
                      by_cases hij : i = j <;> simp [hij]
                    rw [hfe]
                    have hcount : ∀ (xs : List Nat), xs.Nodup → j ∈ xs → (xs.filter fun i => !listed.getD i false).length = (xs.filter fun i => (!listed.getD i false) && decide (i ≠ j)).length + 1 := by
                      intro xs
                      induction xs with
                      | nil => intro _ h; cases h
                      | cons x xs ihx =>
                        intro hnd hm'
                        rw [List.nodup_cons] at hnd
                        by_cases hxj : x = j
                        · subst hxj
                          have hno : ∀ i ∈ xs, i ≠ x := fun i hi h => hnd.1 (h ▸ hi)
                          rw [List.filter_cons_of_pos (by simp [hjf]), List.filter_cons_of_neg (by simp), List.length_cons]
                          congr 2
                          refine List.filter_congr fun i hi => ?_
                          simp [hno i hi]
                        · have hmx : j ∈ xs := by
                            rcases List.mem_cons.1 hm' with h | h
                            · exact absurd h.symm hxj
                            · exact h
                          have := ihx hnd.2 hmx
                          by_cases hl' : listed.getD x false = true
                          · rw [List.filter_cons_of_neg (by simp [hl']), List.filter_cons_of_neg (by simp [hl'])]; exact this
                          · rw [List.filter_cons_of_pos (by simpa using hl'), List.filter_cons_of_pos (by simp only [Bool.and_eq_true]; exact ⟨by simpa using hl', by simp [hxj]⟩)]
                            simp only [List.length_cons, this]
                    have := hcount (List.range ops.size) List.nodup_range (List.mem_range.2 hjlt)
                    omega
                  · intro i si hsi hEi p hp
                    have h1 := congrFun hEE i
                    have h2 := congrFun hEE p
                    simp only at h1 h2
                    rw [h1] at hEi
                    rw [h2]
                    simp only [Bool.or_eq_true, decide_eq_true_eq] at hEi ⊢
                    rcases hEi with h | h
                    · exact .inl (hdown i si hsi h p hp)
                    · subst h
                      rw [hso] at hsi; cases hsi
                      exact .inl (hpj p hp)
          have hE0 : ∀ i, (Array.replicate ops.size false).getD i false = false := fun i => by
            rw [Array.getD_eq_getD_getElem?, Array.getElem?_replicate]
            split <;> rfl
          refine wp_region_any hm (all ops.size (Array.replicate ops.size false) a0 _ (by simp) ?_ ?_ ?_)
          · have : ((List.range ops.size).filter fun i => !(Array.replicate ops.size false).getD i false) = List.range ops.size := by
              rw [List.filter_eq_self]
              intro i hi
              rw [hE0 i]; rfl
            rw [this]; simp
          · intro i so _ h
            exfalso
            rw [hE0 i] at h
            cases h
          · have h0O : ∀ k, obj (stF fun i => (Array.replicate ops.size false).getD i false).objs k = obj st.objs k := fun k => by
              rw [(spec _).1 k]; exact curO_none ds 0 _ fun j => hE0 _
            have h0S : ∀ t, nth (stF fun i => (Array.replicate ops.size false).getD i false).fr t = nth st.fr t := fun t => by
              rw [(spec _).2.2.1 t]
              split
              · exact curS_none ds 0 _ fun j => hE0 _
              · rename_i h; rw [nth_eq, List.getD_eq_getElem?_getD, List.getElem?_eq_none (Nat.le_of_not_lt h)]; rfl
            have hge : st.objs.length ≤ (stF fun i => (Array.replicate ops.size false).getD i false).objs.length := by rw [(spec _).2.1]; exact hallN.1
            have hg := hs0.heap.grown (w' := { w0 with drawn := w0.drawn + 1 }) hgrow
            refine ⟨S0, σ0, ⟨⟨hg.frz, fun i o ho => hg.ob i o (by rw [← h0O]; exact ho), fun i j o o' L L' ho ho' => hg.inj i j o o' L L' (by rw [← h0O]; exact ho) (by rw [← h0O]; exact ho'), fun i hi => hg.fit i (by omega)⟩, hs0.frame.congr (hlenF _) h0S⟩, ?_, ?_⟩
            · have hfg := (Fr.grown (os := st.objs) (σ := σ0) (S := S0) (w := w0) (w' := { w0 with drawn := w0.drawn + 1 }) hgrow (Nat.le_refl _) rfl rfl rfl).mono hn0
              exact ⟨hfg.le, hfg.loc, by omega, fun i hi hd => by rw [h0O]; exact hd, hfg.size, hfg.so, hfg.tape, hfg.output, hfg.keep, fun b ⟨i, o, L, ho, hL, hb⟩ => hfg.own b ⟨i, o, L, by rw [← h0O]; exact ho, hL, hb⟩⟩
            · intro j d hd _ k hk _
              exact hs0.heap.fit k (by have := (hallN.2 j d hd).1; omega)
        · cases he
      · cases he
    · cases he

end
end Go.Ev
