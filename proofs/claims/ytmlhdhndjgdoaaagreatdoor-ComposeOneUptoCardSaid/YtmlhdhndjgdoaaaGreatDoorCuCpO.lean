/- Plain law: one atom alone, with a word of its own, is said by that word. -/
import Derived.Test.YtmlhdhndjgdoaaaGreatDoorCuCpT
import Derived.Test.YtmlhdhndjgdoaaaGreatDoorCuCmpD
namespace Go.Proofs.YtmlhdhndjgdoaaaGreatDoor.cp
open Go Go.Ev
set_option linter.unusedSimpArgs false
set_option linter.unusedVariables false
set_option maxRecDepth 100000

theorem stepG_err {m : GM} {r : Rw} {q : Int × Int} (h : Go.Ev.stepG m r = .inr q) : q.2 ≠ 0 := by
  unfold Go.Ev.stepG at h
  split at h
  · split at h
    · split at h
      · cases h; show (10 : Int) ≠ 0; omega
      · cases h
    · cases h; show (2 : Int) ≠ 0; omega
  · cases h; show (2 : Int) ≠ 0; omega
theorem foldG_err : ∀ (rs : List Rw) (m : GM) (q : Int × Int), foldE Go.Ev.stepG rs m = .inr q → q.2 ≠ 0
  | [], m, q, h => by cases h
  | r :: rs, m, q, h => by
    simp only [foldE] at h
    split at h
    · exact foldG_err rs _ q h
    · rename_i q' hq
      cases h
      exact stepG_err hq

/-- ComposeOne is true, of an atom that a machine can hold. -/
theorem lone_true (o : Option (List V)) (ho : RowsT big big big o) (l wd c k a5 a6 : List UInt8) (a7 : Int) (h7 : -9223372036854775808 ≤ a7 ∧ a7 ≤ 9223372036854775807) (h5 : a5.length + a6.length ≤ 10000000) : lone o l wd c k a5 a6 a7 = some true := by
  have haw : awake24 = some true := rfl
  unfold lone
  rw [haw]
  simp only [Option.bind_some, Bool.not_true, cond_false]
  obtain ⟨b, hb1, hb2⟩ := heavy_some ho
  have hb1' : heavy24 o = some b := hb1
  rw [hb1']
  simp only [Option.bind_some]
  cases b with
  | true => rfl
  | false =>
  obtain ⟨t, rfl, ht⟩ := rows_typed (hb2 rfl)
  obtain ⟨t2, hs1, hs2⟩ := ashow_ok a5 a6 a7 (by omega)
  have hs1' : ashow a5 a6 a7 = some t2 := hs1
  simp only [cond_false, hs1', Option.bind_some]
  cases ht2 : t2 == [] with
  | true => rfl
  | false =>
  have hrb : RwsB 1000 999 120 (t.getD []) := ⟨by have := ht.1; omega, fun r hr => ⟨by have := (ht.2 r hr).1; omega, (ht.2 r hr).2⟩⟩
  have hrb2 : RwsB 1000 1000 1000 (t.getD []) := ⟨by have := ht.1; omega, fun r hr => ⟨by have := (ht.2 r hr).1; omega, fun s hs => by have := (ht.2 r hr).2 s hs; omega⟩⟩
  obtain ⟨r3, h3, h3'⟩ := ploadT_ok (B := 120) (by omega) 172 t hrb
  obtain ⟨q, hq, h4, h4'⟩ := gload_exact t hrb2
  have h3e : pload (encRs t) = some r3 := h3
  have h4e : gload (encRs t) = some (genR q) := h4
  simp only [cond_false, h3e, h4e, Option.bind_some]
  rcases h3' with ⟨w, p, hw, rfl⟩ | ⟨kk, e, he, rfl⟩
  · have z : ((0 : Int) != 0) = false := rfl
    simp only [z, cond_false]
    cases q with
    | inr q =>
      have hne := foldG_err _ _ _ hq
      have : ((genR (.inr q)).2.2 != 0) = true := bne_iff_ne.2 hne
      simp only [this, cond_true]
    | inl m =>
      have g2 : ((genR (.inl m)).2.2 != 0) = false := rfl
      have g1 : (genR (.inl m)).1 = some [.mp (some (encF key2 V.str m))] := rfl
      have n1 : (Wds w p).isNone = false := rfl
      have n2 : (some [V.mp (some (encF key2 V.str m))]).isNone = false := rfl
      simp only [g1, g2, n1, n2, cond_false]
      obtain ⟨t6, b6, h6, h6'⟩ := pfind_ok hw [119, 111, 114, 100] l wd t2 c k
      have h6e : pfind (Wds w p) [119, 111, 114, 100] l wd t2 c k = some (t6, b6) := h6
      have hof : nof 1 = some (some (wordsV [1])) := nof_one
      have hush : ushow (some [.agg [.str a5, .str a6, .int .i64 a7]]) none (some (wordsV [1])) = some t2 := ushow_one a5 a6 a7 t2 hs1 (by omega)
      have hhw : hword l wd c k (Wds w p) t2 = some (t6, b6) := by
        show Go.Ev.hword l wd c k (Wds w p) t2 = _
        unfold Go.Ev.hword
        rw [h6]; rfl
      simp only [h6e, hof, Option.bind_some]
      cases b6 with
      | true =>
        obtain ⟨n, hn, hn'⟩ := cname_len t6 (by omega)
        have hcat : catom (Wds w p) (some [.mp (some (encF key2 V.str m))]) l wd c k a5 a6 a7 = some (n, 0) := by
          show Go.Ev.catom _ _ _ _ _ _ _ _ _ = _
          unfold Go.Ev.catom
          rw [hs1]
          simp only [Option.bind_some]
          have : Go.Ev.hword l wd c k (Wds w p) t2 = some (t6, true) := hhw
          rw [this]
          simp only [Option.bind_some, cond_true, hn]
        obtain ⟨s8, h8, h8'⟩ : ∃ s8, cpart (Wds w p) (some [.mp (some (encF key2 V.str m))]) l wd c k (some [.agg [.str a5, .str a6, .int .i64 a7]]) none (some (wordsV [1])) = some (s8, 0) ∧ Go.Ev.cname s8 = some n := by
          show ∃ s8, Go.Ev.cpart _ _ _ _ _ _ _ _ _ = some (s8, 0) ∧ _
          have hsc : sContains t6 [123, 48, 125] = some (Lib.contains t6 sSign) := by
            unfold sContains
            rw [if_neg (by omega)]; rfl
          have e1 : Go.Ev.ushow (some [.agg [.str a5, .str a6, .int .i64 a7]]) none (some (wordsV [1])) = some t2 := hush
          have e2 : Go.Ev.hword l wd c k (Wds w p) t2 = some (t6, true) := hhw
          unfold Go.Ev.cpart
          rw [e1]
          simp only [Option.bind_some]
          rw [e2]
          simp only [Option.bind_some, cond_true, hsc]
          cases hct : Lib.contains t6 sSign with
          | true => exact ⟨t6, by simp only [Bool.not_true, cond_false], hn⟩
          | false =>
            have hm : decide ((([123, 48, 125, 32] : List UInt8).length + (t6 : List UInt8).length) ≤ maxStr) = true := decide_eq_true (by unfold maxStr; simp; omega)
            exact ⟨[123, 48, 125, 32] ++ t6, by simp only [Bool.not_false, cond_true, hm, chk_true], by rw [cname_sign t6 (by omega) hct]; exact hn⟩
        have hn2 : cname t6 = some n := hn
        have h82 : cname s8 = some n := h8'
        have z0 : ((0 : Int) == 0) = true := rfl
        simp only [hcat, h8, Option.bind_some, Bool.not_true, cond_false, z0, cond_true, hn2, h82, beq_self_eq_true]
      | false =>
        obtain ⟨s9, e9, h9, h9'⟩ := catom_ok (m := m) hw (by omega) l wd c k a5 a6 a7 h7 (by omega)
        have hcat : catom (Wds w p) (some [.mp (some (encF key2 V.str m))]) l wd c k a5 a6 a7 = some (s9, e9) := h9
        obtain ⟨s8, h8⟩ : ∃ s8, cpart (Wds w p) (some [.mp (some (encF key2 V.str m))]) l wd c k (some [.agg [.str a5, .str a6, .int .i64 a7]]) none (some (wordsV [1])) = some (s8, e9) := by
          show ∃ s8, Go.Ev.cpart _ _ _ _ _ _ _ _ _ = some (s8, e9)
          have e1 : Go.Ev.ushow (some [.agg [.str a5, .str a6, .int .i64 a7]]) none (some (wordsV [1])) = some t2 := hush
          have e2 : Go.Ev.hword l wd c k (Wds w p) t2 = some (t6, false) := hhw
          obtain ⟨tr, hr1, hr2⟩ := crow_one (Wds w p) (some [.mp (some (encF key2 V.str m))]) l wd c k a5 a6 s9 a7 e9 h9
          unfold Go.Ev.cpart
          rw [e1]
          simp only [Option.bind_some]
          rw [e2]
          simp only [Option.bind_some, cond_false]
          rw [hr1]
          simp only [Option.bind_some]
          by_cases he : e9 = 0
          · subst he
            have htr : tr.length ≤ 100000000 := by rw [hr2 rfl]; exact h9'
            have z0 : ((0 : Int) != 0) = false := rfl
            have d0 : decide ((0 : Int) > 0) = false := rfl
            have d1 : decide (((slLen none : Nat) : Int) > 0) = false := rfl
            have hm : decide ((([123, 48, 125, 32] : List UInt8).length + (tr : List UInt8).length) ≤ maxStr) = true := decide_eq_true (by unfold maxStr; simp; omega)
            simp only [z0, cond_false, Go.Ev.hone, Option.bind_some, crow_none, nof_one, ncmp_one, d0, d1, hm, chk_true]
            exact ⟨_, rfl⟩
          · have : (e9 != 0) = true := bne_iff_ne.2 he
            simp only [this, cond_true]
            exact ⟨_, rfl⟩
        simp only [hcat, h8, Option.bind_some, Bool.not_false, cond_true, beq_self_eq_true]
  · have : (e != 0) = true := bne_iff_ne.2 he
    simp only [this, cond_true]
end Go.Proofs.YtmlhdhndjgdoaaaGreatDoor.cp
