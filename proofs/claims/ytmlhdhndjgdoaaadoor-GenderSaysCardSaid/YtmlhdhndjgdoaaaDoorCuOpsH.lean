/- The operations, eighth part: stores. -/
import Derived.Test.YtmlhdhndjgdoaaaDoorCuOpsG
namespace Go.Ev

theorem splice_length {α : Type} {cs xs : List α} {k : Nat} (h : k + xs.length ≤ cs.length) : (splice cs k xs).length = cs.length := by
  simp [splice]; omega

theorem take_splice {α : Type} {cs xs : List α} {k m : Nat} (h : k + xs.length ≤ m) (hm : m ≤ cs.length) : (splice cs k xs).take m = splice (cs.take m) k xs := by
  unfold splice
  have h1 : (cs.take k ++ xs).length = k + xs.length := by simp; omega
  rw [List.take_append, List.take_of_length_le (by omega), h1, List.drop_take, List.take_take, Nat.min_eq_left (by omega)]

/-- Cells of one element of a row are written. -/
theorem splice_inner {α : Type} {cs xs : List α} {p o n : Nat} (hx : o + xs.length ≤ n) (hc : p + n ≤ cs.length) : splice cs p (splice ((cs.drop p).take n) o xs) = splice cs (p + o) xs := by
  have hl : ((cs.drop p).take n).length = n := by simp; omega
  have hl2 : (splice ((cs.drop p).take n) o xs).length = n := by rw [splice_length (by omega), hl]
  apply List.ext_getElem?
  intro k
  have e1 : ∀ (a b c : List α) (k : Nat), (a ++ b ++ c)[k]? = if k < a.length then a[k]? else if k < a.length + b.length then b[k - a.length]? else c[k - (a.length + b.length)]? := by
    intro a b c k
    split
    · rw [List.append_assoc, List.getElem?_append_left (by assumption)]
    · split
      · rw [List.append_assoc, List.getElem?_append_right (by omega), List.getElem?_append_left (by omega)]
      · rw [List.getElem?_append_right (by simp; omega)]
        simp
  have ht : (cs.take p).length = p := by simp; omega
  have ht2 : (cs.take (p + o)).length = p + o := by simp; omega
  have hti : (((cs.drop p).take n).take o).length = o := by simp; omega
  show (cs.take p ++ splice ((cs.drop p).take n) o xs ++ cs.drop (p + (splice ((cs.drop p).take n) o xs).length))[k]? = (cs.take (p + o) ++ xs ++ cs.drop (p + o + xs.length))[k]?
  rw [e1, e1, hl2, ht, ht2]
  by_cases h1 : k < p
  · rw [if_pos h1, if_pos (by omega), List.getElem?_take, List.getElem?_take, if_pos h1, if_pos (by omega)]
  · rw [if_neg h1]
    by_cases h2 : k < p + n
    · rw [if_pos h2]
      unfold splice
      rw [e1, hti]
      by_cases h3 : k < p + o
      · rw [if_pos h3, if_pos (by omega), List.getElem?_take, if_pos (by omega), List.getElem?_take, if_pos (by omega), List.getElem?_drop, List.getElem?_take, if_pos h3]
        congr 1; omega
      · rw [if_neg h3, if_neg (by omega)]
        by_cases h4 : k < p + o + xs.length
        · rw [if_pos h4, if_pos (by omega)]
          congr 1; omega
        · rw [if_neg h4, if_neg (by omega), List.getElem?_drop, List.getElem?_take, if_pos (by omega), List.getElem?_drop, List.getElem?_drop]
          congr 1; omega
    · rw [if_neg h2, if_neg (by omega), if_neg (by omega), List.getElem?_drop, List.getElem?_drop]
      congr 1; omega

section
variable {P : Program} {o : Oper} {ρ : Operand → Value} {w : World} {S : Fz} {σ : Locs} {os : Objs} {fr : List SV} {mm : Bool} {call : CallT} {s : SOp} {r : R}

theorem run_storeVar' {t : TypeId} {n g p : Nat} {ty : TypeId} {v : Value} {cur : Array Value} (hn : sizeT P t = some n) (hl : v.cells.size = n) (hg : w.heap[g]? = some (.cells cur ty (0, 0))) (hfit : p + n ≤ cur.size) (h1 : ∀ u ∈ v.cells.toList, u.oneCell' = true) :
    (storeVar t ⟨g, p, none⟩ v).run P w = .ok () (w.setRow g (splice cur.toList p v.cells.toList).toArray) := by
  have := run_storeCells_at P g p ty v.cells.toList 0 cur w hg (by simp; omega) h1
  simp only [Nat.add_zero] at this
  simp only [storeVar, Sem.run_bind, sizeT_run hn, Result.andThen_ok, hl, ne_eq, not_true_eq_false, if_false]
  exact this

/-- An own object is written where it lies. -/
theorem post_put {i : Nat} {o o' : LObj} {L : Loc} {w1 : World} {sv : SV} {v : Value} (h : HeapSim S σ os w) (hi : obj os i = some o) (hL : σ i = some L) (hk : ∀ b, b ≠ L.b → w1.heap[b]? = w.heap[b]?) (hsize : w.heap.size ≤ w1.heap.size)
    (h1 : w1.os = w.os) (h2 : w1.tape = w.tape) (h3 : w1.output = w.output) (hn : ∀ j, S.cell L.b j = none) (ho : ObjSim S σ o' L w1) (he : o'.edge L = o.edge L) (hv : relS S σ sv v) : Post os σ S w ⟨sv, os.set i (some o')⟩ v w1 :=
  ⟨S, σ, h.put hi hL hk (fun j v hc => by rw [hn] at hc; cases hc) ho he, hv, Fr.put hi hL hk hsize h1 h2 h3⟩

variable (hρ : ∀ x y, cOpd x = some y → relS S σ (opd fr y) (ρ x)) (hs : HeapSim S σ os w)
include hρ hs

theorem ok_st {t : TypeId} {x v : Operand} (ho : o.op = .store t x v) (hc : cOp P o.op = some s) (he : evOp mm call fr os s = some r) : OpDone P (execOp ρ o) w (Post os σ S w r) := by
  rw [ho] at hc
  simp only [cOp] at hc
  split at hc
  · rename_i n hn
    obtain ⟨a, b, ha, hb, hf⟩ := un2_some hc
    cases hf
    have hx := hρ x a ha
    have hv := hρ v b hb
    simp only [evOp] at he
    split at he
    · rename_i os' hst
      cases he
      unfold storeA at hst
      split at hst
      · cases hst
      · rename_i ys hys
        have hcl := hv.cells hys
        have hlen := hcl.1
        simp only [Array.length_toList] at hlen
        split at hst
        · rename_i hg
          have hones := relAs_one hcl hg.2
          have fin : ∀ {a : Addr} {w1 : World} {os2 : Objs}, ρ x = .pointer (some a) → (storeVar t a (ρ v)).run P w = .ok () w1 → Post os σ S w ⟨.void, os2⟩ undef w1 → OpDone P (execOp ρ o) w (Post os σ S w ⟨.void, os2⟩) := by
            intro a w1 os2 hp hr hq
            refine .inr (.inl ⟨w1, ?_, hq⟩)
            simp only [execOp, ho, hp]
            simp [Instr.storeAt, Instr.sureAddr, hr]
          have hvoid : ∀ {S : Fz}, relS S σ .void undef := fun {S} => Rep.mk_tup (vs := []) Pw.nil
          split at hst
          · -- a variable
            rename_i i p hox
            rw [hox] at hx
            obtain ⟨L, hL, hpx⟩ := hx
            split at hst
            · rename_i ty cs hob
              split at hst
              · rename_i hfit
                cases hst
                obtain ⟨⟨c, h1, h2⟩, hfree⟩ := hs.loc hob hL
                have hcs := h2.1
                simp only [Array.length_toList] at hcs
                refine fin hpx (run_storeVar' hn (by omega) h1 (by omega) hones) ?_
                refine post_put hs hob hL (fun b hb => setRow_other w L.b b _ hb) (by simp) (by simp) (by simp) (by simp) (fun j => hfree.cell j (Nat.zero_le _)) ⟨_, setRow_heap w L.b c _ ty _ h1, ?_⟩ rfl hvoid
                exact h2.splice hcl p
              · cases hst
            · cases hst
          · -- an element
            rename_i i sz k p hox
            rw [hox] at hx
            obtain ⟨L, hL, hpx⟩ := hx
            split at hst
            · rename_i vs os1 hfz
              split at hst
              · cases hst
              · rename_i hone
                obtain ⟨S1, k1, k2, k3, k4⟩ := freezeL_ok (freezeA_ok depth) ys os vs os1 S σ w (ρ v).cells.toList hfz hs hcl
                split at hst
                · rename_i e sz' xs hob
                  split at hst
                  · rename_i hsz
                    subst hsz
                    split at hst
                    · rename_i x0 hx0
                      obtain ⟨⟨q1, q2, q3, us, q4, q5⟩, hfree⟩ := k1.loc hob hL
                      have hklt : k < xs.length := by
                        rcases Nat.lt_or_ge k xs.length with h | h
                        · exact h
                        · rw [List.getElem?_eq_none h] at hx0; cases hx0
                      have hx0l : x0.cells.length = sz' := q3 x0 (List.mem_of_getElem? hx0)
                      have hvl := k2.1
                      simp only [Array.length_toList] at hvl
                      -- one element turned
                      have turn : ∀ {y : V}, p + n ≤ sz' → y.cells = splice x0.cells p vs → OpDone P (execOp ρ o) w (Post os σ S w ⟨.void, os1.set i (some (.arr e sz' (xs.set k y)))⟩) := by
                        intro y hpn hy
                        rcases q4.2 with ⟨hc, _⟩ | ⟨g, cap, cur, hc, _, hgb, hnc, hcm, hcs, htake⟩
                        · cases hc
                        · cases hc
                          have hyl : y.cells.length = sz' := by rw [hy, splice_length (by omega), hx0l]
                          have hkk : k * sz' + sz' ≤ L.len * sz' := by rw [← Nat.succ_mul]; exact Nat.mul_le_mul_right _ (by omega)
                          have hLc : L.len * sz' ≤ L.cap * sz' := Nat.mul_le_mul_right _ hnc
                          have hul := q4.1
                          have hfl : (flat xs).length = L.len * sz' := by rw [flat_length q3, q2]
                          have hflat : flat (xs.set k y) = splice (flat xs) (k * sz' + p) vs := by
                            rw [flat_set q3 hyl hklt, hy, ← flat_at q3 hx0, splice_inner (by omega) (by omega)]
                          refine fin hpx (run_storeVar' (p := k * sz' + p) hn (by omega) hgb (by omega) hones) (Post.after k3 k4 (post_put k1 hob hL (fun b hb => setRow_other w L.b b _ hb) (by simp) (by simp) (by simp) (by simp) (fun j => hfree.cell j (Nat.zero_le _)) ?_ rfl hvoid))
                          have hall : ∀ a ∈ xs.set k y, a.cells.length = sz' := fun a ha => by
                            rcases List.mem_or_eq_of_mem_set ha with ha | ha
                            · exact q3 a ha
                            · rw [ha]; exact hyl
                          have hpw : Pw (Rep S1) (flat (xs.set k y)) (splice us (k * sz' + p) (ρ v).cells.toList) := by rw [hflat]; exact q5.splice k2 _
                          refine ⟨q1, by simpa using q2, hall, _, obj_row (S := S1) (by simpa using q2) hall hpw (setRow_heap w L.b cur _ e _ hgb) ?_ hnc hcm ?_, hpw⟩
                          · simp only [List.size_toArray]
                            rw [splice_length (by simp; omega)]
                            simpa using hcs
                          · rw [← htake, ← take_splice (by simp; omega) (by simp; omega)]
                      split at hst
                      · rename_i h1x
                        have hx1 : x0.cells = [x0] := by
                          cases x0 <;> first | rfl | (simp [V.one] at h1x)
                        split at hst
                        · rename_i hp0
                          subst hp0
                          split at hst
                          · rename_i y
                            cases hst
                            have hy1 : y.cells = [y] := by
                              simp at hone
                              cases y <;> first | rfl | (simp [V.one] at hone)
                            refine turn ?_ (by rw [hy1, hx1]; rfl)
                            rw [hx1] at hx0l
                            simp at hx0l hvl
                            omega
                          · cases hst
                        · cases hst
                      · split at hst
                        · rename_i hpn
                          cases hst
                          exact turn (by omega) rfl
                        · cases hst
                    · cases hst
                  · cases hst
                · cases hst
            · cases hst
          · cases hst
        · cases hst
    · cases he
  · cases hc

end
end Go.Ev
