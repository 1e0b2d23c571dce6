/-
  lex.number and vm.isLabel (a text whose bytes are all of a set), by walk.
-/
import Derived.Test.YtejpkjcjoengbaaGreatDoorBuild
import Derived.Shelf.Strings.SlTrimAscii
set_option linter.unusedVariables false
set_option linter.unusedSimpArgs false
namespace Go.Proofs.YtejpkjcjoengbaaGreatDoor
open Go.RowKit

def digits10 : List UInt8 := [48, 49, 50, 51, 52, 53, 54, 55, 56, 57]
/-- lex.number, of a text that is not empty. -/
def numberF (l : List UInt8) : Bool := decide (l.length ≤ 15) && (Lib.trimS l digits10).isEmpty && !decide (0 ≤ Lib.indexByte l 39) && (l == [48] || l.head? != some 48)

theorem lex_trim (s : ByteArray) (w : World) (hs : s.size ≤ maxLen) :
    Calls Tryz.prog 27 #[.string s, .string ⟨#[48, 49, 50, 51, 52, 53, 54, 55, 56, 57]⟩] w fun e w' => e = .returned (.string ⟨(Lib.trimS s.data.toList digits10).toArray⟩) ∧ Below w.heap.size w w' :=
  Any.strings_Trim_laid Tryz.lays160 (by kernel_rfl) s _ w (by unfold maxLen at hs; omega) (by decide) (ascii_of_all (by decide))

theorem head_byte (s : ByteArray) (h0 : 0 < s.size) (c : UInt8) : (((s[0]'h0).toNat : Int) != (c.toNat : Int)) = (s.data.toList.head? != some c) := by
  obtain ⟨⟨l⟩⟩ := s
  match l, h0 with
  | a :: l, _ =>
    show ((a.toNat : Int) != (c.toNat : Int)) = _
    simp only [List.head?_cons]
    rw [Bool.eq_iff_iff]
    simp only [bne_iff_ne, ne_eq, Option.some.injEq]
    rw [← UInt8.toNat_inj]
    omega
theorem toList_eq (s : ByteArray) : s.toList = s.data.toList := Lib.toList_data s

set_option maxHeartbeats 400000 in
theorem lex_number (s : ByteArray) (w : World) (hs : s.size ≤ maxLen) (h0 : 0 < s.size) :
    Calls Tryz.prog 105 #[.string s] w fun e w' => e = .returned (.bool (numberF s.data.toList)) ∧ Below w.heap.size w w' := by
  have hs' := hs
  unfold maxLen at hs
  have hh := head_byte s h0 48
  have HH := Lib.hid hh
  clear hh
  by_cases hl : s.size ≤ 15
  · go_enter Tryz.func105, Tryz.ntmps105
    go_wp2_with (go_at_call 27; refine (lex_trim s _ hs').mono ?_)
    rintro e w1 ⟨rfl, hb⟩
    go_wp2_with (first | (go_at_call 132; refine (Tryz.strings_Contains_one s 39 _).mono ?_; rintro e w' ⟨rfl, rfl⟩))
    all_goals go_ret
    all_goals refine ⟨ret_bool ?_, hb⟩
    all_goals have hh := HH.out
    all_goals rw [show ((48 : UInt8).toNat : Int) = 48 from rfl] at hh
    all_goals try simp only [toList_eq] at *
    all_goals (simp [numberF, *] <;> decide)
  · go_enter Tryz.func105, Tryz.ntmps105
    go_wp2
    go_ret
    refine ⟨ret_bool ?_, Below.refl _ _⟩
    simp [numberF, hl]
end Go.Proofs.YtejpkjcjoengbaaGreatDoor
