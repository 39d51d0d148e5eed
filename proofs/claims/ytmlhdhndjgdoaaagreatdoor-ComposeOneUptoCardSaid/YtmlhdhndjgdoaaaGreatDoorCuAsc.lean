/- Plain laws: runes and bytes of ASCII sets. -/
import Derived.Test.YtmlhdhndjgdoaaaGreatDoorCuLp
import Derived.Laws.RangeString
import Derived.Laws.RangeAny
import Derived.Lib.TrimU
import Derived.Lib.TrimAscii
namespace Go.Ev
open Go

theorem dec_low (s : List UInt8) (k : Nat) (h : k < s.length) (hb : (s[k]).toNat < 128) : Utf8.decode ⟨s.toArray⟩ k = ((s[k]).toNat, 1) :=
  decode_ascii ⟨s.toArray⟩ k h hb
theorem dec_high (s : List UInt8) (k : Nat) (h : k < s.length) (hb : 128 ≤ (s[k]).toNat) : 128 ≤ (Utf8.decode ⟨s.toArray⟩ k).1 :=
  (decode_high ⟨s.toArray⟩ k h hb).1

/-- A last byte of 128 or more: its rune is no ASCII sign. -/
theorem dl_high (l : List UInt8) (hne : l ≠ []) (h : 128 ≤ (l.getD (l.length - 1) 0).toNat) : 128 ≤ (Lib.decodeLastL l).1 := by
  unfold Lib.decodeLastL
  rw [if_neg hne, if_neg (by omega)]
  simp only
  split
  · rename_i hc
    have hd : Lib.lastStart l < l.length := by
      have := Lib.decodeL_width (l.drop (Lib.lastStart l))
      omega
    have hl0 : 0 < (l.drop (Lib.lastStart l)).length := by rw [List.length_drop]; omega
    by_cases hb : ((l.drop (Lib.lastStart l))[0]).toNat < 128
    · have he := dec_low (l.drop (Lib.lastStart l)) 0 hl0 hb
      unfold Lib.decodeL at hc
      rw [he] at hc
      simp only at hc
      rw [List.getElem_drop] at hb
      have : l.length - 1 = Lib.lastStart l := by omega
      rw [this, List.getD_eq_getElem?_getD, List.getElem?_eq_getElem hd] at h
      simp only [Option.getD_some, Nat.add_zero] at h hb
      omega
    · exact dec_high _ 0 hl0 (by omega)
  · decide

/-- Of an ASCII set. -/
def ascii (set : List UInt8) : Prop := ∀ b ∈ set, b.toNat < 128
end Go.Ev
