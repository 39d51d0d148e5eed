/- What the rows share. -/
import Derived.Test.YtmlhdhndjgdoaaaDoorCuGsP
import Derived.Test.YtmlhdhndjgdoaaaDoorCuRow
import Derived.Test.YtmlhdhndjgdoaaaDoorCuRe2
import Derived.Test.YtmlhdhndjgdoaaaDoorCuRw
import Derived.Test.YtmlhdhndjgdoaaaDoorCards
import Derived.Test.YtmlhdhndjgdoaaaDoorTie
import Derived.WalkKit
import Derived.ProofKit
import Derived.Deep.DeepHandedRow
import Derived.Lay
import Derived.Lib.LaidU8T
namespace Go.Proofs.YtmlhdhndjgdoaaaDoor.gs
set_option maxRecDepth 1000000
open Go.ChangeShapes Go.WideShapes Go.ChangeAt Go.RowKit
open Go.Ev (Rep allFz TyL TyAll elOfs elOf ty_slice ty_struct ty_int ty_str args_rep plainT structTs TyTs)

theorem own : ownKnob Tryd.prog.godebug = none := by kernel_rfl
theorem maxLen_cell {W : World} (h : W.ShapedOpen Tryd.prog) : ∃ m, W.cell? ⟨1, 0, none⟩ = some (.int .i64 m) := Tryd.laysM146.s1_3 W h
theorem kids : Kids Tryd.prog (· < Tryd.prog.types.size) := kids_rows (by kernel_rfl) (by kernel_rfl)
theorem full : ∀ t e, t < Tryd.prog.types.size → Tryd.prog.underlying t = some (.slice e) → 0 < Tryd.prog.cellsOf e := slices_full_of Tryd.prog (by kernel_rfl)
theorem u3 : Tryd.prog.underlying 3 = some (.int .i64) := by kernel_rfl
theorem u4 : Tryd.prog.underlying 4 = some .bool := by kernel_rfl
theorem u9 : Tryd.prog.underlying 9 = some .string := by kernel_rfl
theorem u22 : Tryd.prog.underlying 22 = some (.slice 58) := by kernel_rfl
theorem u23 : Tryd.prog.underlying 23 = some (.slice 30) := by kernel_rfl
theorem u24 : Tryd.prog.underlying 24 = some (.slice 81) := by kernel_rfl
theorem u56 : Tryd.prog.underlying 56 = some (.slice 9) := by kernel_rfl
theorem u81 : Tryd.prog.underlying 81 = some (.int .u32) := by kernel_rfl
theorem s58 : structTs Tryd.prog 58 = some [3, 56] := by kernel_rfl
theorem s30 : structTs Tryd.prog 30 = some [9, 9, 3] := by kernel_rfl
theorem s28 : structTs Tryd.prog 28 = some [23, 23, 26] := by kernel_rfl
theorem s26 : structTs Tryd.prog 26 = some [24] := by kernel_rfl
theorem a58 : Ev.aggT Tryd.prog 58 = some true := by kernel_rfl
theorem a30 : Ev.aggT Tryd.prog 30 = some true := by kernel_rfl
theorem a28 : Ev.aggT Tryd.prog 28 = some true := by kernel_rfl
theorem a9 : Ev.aggT Tryd.prog 9 = some false := by kernel_rfl
theorem a3 : Ev.aggT Tryd.prog 3 = some false := by kernel_rfl
theorem a22 : Ev.aggT Tryd.prog 22 = some false := by kernel_rfl
theorem a81 : Ev.aggT Tryd.prog 81 = some false := by kernel_rfl
open Ev (RowsT big encAs encA Atm wordsV okWs)

/-- Rows that came in. -/
theorem rows_in {d : Nat} {vs : List Ev.V} (h : TyL Tryd.prog (d + 5) 22 vs) : ∃ o, vs = [.sl o] ∧ RowsT big big big o := by
  obtain ⟨o, rfl, h1⟩ := ty_slice u22 h
  refine ⟨o, rfl, fun xs hx => ?_⟩
  obtain ⟨h2, h3⟩ := h1 xs hx
  refine ⟨h2, fun x hx => ?_⟩
  obtain ⟨ys, rfl, _, h4⟩ := h3 x hx
  obtain ⟨a, b, rfl, h5, c, e, rfl, h6, rfl⟩ := ty_struct s58 h4
  obtain ⟨n, rfl, _⟩ := ty_int u3 h5
  obtain ⟨w, rfl, h7⟩ := ty_slice u56 h6
  refine ⟨n, w, by unfold elOf; rw [if_pos a58]; rfl, fun ws hw => ?_⟩
  obtain ⟨h8, h9⟩ := h7 ws hw
  refine ⟨h8, fun y hy => ?_⟩
  obtain ⟨zs, rfl, _, h10⟩ := h9 y hy
  obtain ⟨s, rfl, hs⟩ := ty_str u9 h10
  exact ⟨s, by unfold elOf; rw [if_neg (by rw [a9]; decide)]; rfl, hs⟩
/-- An atom that came in. -/
theorem atom_in {d : Nat} {vs : List Ev.V} (h : TyL Tryd.prog (d + 2) 30 vs) : ∃ p n k, vs = [.str p, .str n, .int .i64 k] := by
  obtain ⟨a, b, rfl, h1, c, e, rfl, h2, f, g, rfl, h3, rfl⟩ := ty_struct s30 h
  obtain ⟨p, rfl, _⟩ := ty_str u9 h1
  obtain ⟨n, rfl, _⟩ := ty_str u9 h2
  obtain ⟨k, rfl, _⟩ := ty_int u3 h3
  exact ⟨p, n, k, rfl⟩
theorem map_of {α : Type} {f : α → Ev.V} {P : α → Prop} : ∀ {xs : List Ev.V}, (∀ x ∈ xs, ∃ r, x = f r ∧ P r) → ∃ t : List α, xs = t.map f ∧ ∀ r ∈ t, P r
  | [], _ => ⟨[], rfl, fun r h => by cases h⟩
  | x :: xs, h => by
    obtain ⟨r, rfl, hr⟩ := h x (List.mem_cons_self ..)
    obtain ⟨t, rfl, ht⟩ := map_of (xs := xs) fun y hy => h y (List.mem_cons_of_mem _ hy)
    exact ⟨r :: t, rfl, fun q hq => by rcases List.mem_cons.1 hq with rfl | hq; exact hr; exact ht q hq⟩
theorem atoms_in {d : Nat} {vs : List Ev.V} (h : TyL Tryd.prog (d + 3) 23 vs) : ∃ o : Option (List Atm), vs = [.sl (encAs o)] := by
  obtain ⟨o, rfl, h1⟩ := ty_slice u23 h
  cases o with
  | none => exact ⟨none, rfl⟩
  | some xs =>
    obtain ⟨_, h3⟩ := h1 xs rfl
    obtain ⟨t, rfl, _⟩ := map_of (f := encA) (P := fun _ => True) (xs := xs) fun x hx => by
      obtain ⟨ys, rfl, _, h4⟩ := h3 x hx
      obtain ⟨p, n, k, rfl⟩ := atom_in h4
      exact ⟨(p, n, k), by unfold elOf; rw [if_pos a30]; rfl, trivial⟩
    exact ⟨some t, rfl⟩
theorem words_in {d : Nat} {vs : List Ev.V} (h : TyL Tryd.prog (d + 2) 24 vs) : ∃ c, vs = [.sl c] ∧ (c = none ∨ ∃ l, c = some (wordsV l) ∧ okWs l) := by
  obtain ⟨o, rfl, h1⟩ := ty_slice u24 h
  refine ⟨o, rfl, ?_⟩
  cases o with
  | none => exact .inl rfl
  | some xs =>
    obtain ⟨_, h3⟩ := h1 xs rfl
    obtain ⟨t, rfl, ht⟩ := map_of (f := fun n : Nat => Ev.V.int .u32 (n : Int)) (P := fun n => n < 4294967296) (xs := xs) fun x hx => by
      obtain ⟨ys, rfl, _, h4⟩ := h3 x hx
      obtain ⟨n, rfl, hn⟩ := ty_int u81 h4
      have hb : 0 ≤ n ∧ n ≤ 4294967295 := by
        have := hn
        have e0 : IntKind.min .u32 = 0 := rfl
        have e1 : IntKind.max .u32 = 4294967295 := rfl
        simp only [Lit.wf, Bool.and_eq_true, decide_eq_true_eq, e0, e1] at this
        exact this
      exact ⟨n.toNat, by unfold elOf; rw [if_neg (by rw [a81]; decide)]; show Ev.V.int .u32 n = Ev.V.int .u32 ((n.toNat : Nat) : Int); congr 1; omega, by omega⟩
    exact .inr ⟨t, rfl, ht⟩
/-- A part that came in. -/
theorem part_in {d : Nat} {vs : List Ev.V} (h : TyL Tryd.prog (d + 4) 28 vs) : ∃ (n m : Option (List Atm)) (c : Option (List Ev.V)), vs = [.sl (encAs n), .sl (encAs m), .sl c] ∧ (c = none ∨ ∃ l, c = some (wordsV l) ∧ okWs l) := by
  obtain ⟨a, b, rfl, h1, c, e, rfl, h2, f, g, rfl, h3, rfl⟩ := ty_struct s28 h
  obtain ⟨n, rfl⟩ := atoms_in h1
  obtain ⟨m, rfl⟩ := atoms_in h2
  obtain ⟨f1, g1, rfl, h4, rfl⟩ := ty_struct s26 h3
  obtain ⟨c, rfl, hc⟩ := words_in h4
  exact ⟨n, m, c, rfl, hc⟩

theorem rep_true {S : Ev.Fz} {v : Value} (h : Rep S (.bool true) v) : v = .bool true := by cases h; rfl
/-- The list that the row bears. -/
theorem laid_from {W : World} {l : List (String × DataW Unit)} (hsh : W.ShapedOpen Tryd.prog) (hL : laidMet Tryd.prog l W)
    (h1 : ("unicode/utf8.first", Rows.laid_unicode_utf8_first) ∈ l) (h2 : ("unicode/utf8.acceptRanges", Rows.laid_unicode_utf8_acceptRanges) ∈ l) (h3 : ("internal/strconv.uint64pow10", Rows.laid_internal_strconv_uint64pow10) ∈ l) : Laid W :=
  ⟨maxLen_cell hsh, utf8Tabs_of_readsT (ρ := Tryd.lays271_ren) { Tryd.lays271 with } ⟨by kernel_rfl, by kernel_rfl, by kernel_rfl, by kernel_rfl, by kernel_rfl, by kernel_rfl, by kernel_rfl⟩ (Lib.laidMet.reads hL h1) (Lib.laidMet.reads hL h2),
    Ev.tabIs_of_reads (g := 0) (t := 132) (e := 92) (n := 20) (by kernel_rfl) (by kernel_rfl) (by kernel_rfl) (by kernel_rfl) (by kernel_rfl) (by kernel_rfl) (Lib.laidMet.reads hL h3) (by kernel_rfl)⟩
end Go.Proofs.YtmlhdhndjgdoaaaDoor.gs
