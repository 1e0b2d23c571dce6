/-
  lex.text (a text between quotes), by walk.
-/
import Derived.Test.YtejpkjcjoengbaaGreatDoorProg
import Derived.WalkKit
import Derived.WalkSpells
import Derived.WalkLawsBesides
import Derived.Test.YtejpkjcjoengbaaGreatDoorShelf
import Derived.Lib.Builder
import Derived.Lib.AppendStr
import Derived.Lib.Strings
import Derived.Shelf.Strings.SlTrimAscii
set_option linter.unusedVariables false
set_option linter.unusedSimpArgs false
namespace Go.Proofs.YtejpkjcjoengbaaGreatDoor
open Go.RowKit

theorem ret_bool {a b : Bool} (h : a = b) : Ending.returned (.bool a) = Ending.returned (.bool b) := by rw [h]
theorem ret_int {k : IntKind} {a b : Int} (h : a = b) : Ending.returned (.int k a) = Ending.returned (.int k b) := by rw [h]
theorem ret_str {a b : ByteArray} (h : a = b) : Ending.returned (.string a) = Ending.returned (.string b) := by rw [h]

def digitB (c : Int) : Bool := decide (48 ≤ c) && decide (c ≤ 57)
def letterB (c : Int) : Bool := (decide (97 ≤ c) && decide (c ≤ 122)) || (decide (65 ≤ c) && decide (c ≤ 90)) || decide (c = 95)
def innerB (c : Int) : Bool := letterB c || digitB c || decide (c = 39)

set_option maxHeartbeats 400000 in
theorem lex_digit (c : Int) (w : World) (h0 : 0 ≤ c) (h1 : c ≤ 255) :
    Calls Tryz.prog 104 #[.int .u8 c] w fun e w' => e = .returned (.bool (digitB c)) ∧ w = w' := by
  go_enter Tryz.func104, Tryz.ntmps104
  go_wp2
  all_goals go_ret
  all_goals exact ⟨ret_bool (by rw [Bool.eq_iff_iff]; simp [digitB]; omega), rfl⟩

set_option maxHeartbeats 400000 in
theorem lex_letter (c : Int) (w : World) (h0 : 0 ≤ c) (h1 : c ≤ 255) :
    Calls Tryz.prog 103 #[.int .u8 c] w fun e w' => e = .returned (.bool (letterB c)) ∧ w = w' := by
  go_enter Tryz.func103, Tryz.ntmps103
  go_wp2
  all_goals go_ret
  all_goals exact ⟨ret_bool (by rw [Bool.eq_iff_iff]; simp [letterB]; omega), rfl⟩

set_option maxHeartbeats 400000 in
theorem lex_inner (c : Int) (w : World) (h0 : 0 ≤ c) (h1 : c ≤ 255) :
    Calls Tryz.prog 106 #[.int .u8 c] w fun e w' => e = .returned (.bool (innerB c)) ∧ w = w' := by
  go_enter Tryz.func106, Tryz.ntmps106
  go_wp2_with (first | (go_at_call 103; refine (lex_letter _ _ (by omega) (by omega)).mono ?_; rintro e w' ⟨rfl, rfl⟩) | (go_at_call 104; refine (lex_digit _ _ (by omega) (by omega)).mono ?_; rintro e w' ⟨rfl, rfl⟩))
  all_goals go_ret
  all_goals exact ⟨ret_bool (by rw [Bool.eq_iff_iff]; simp [innerB, *]), rfl⟩
end Go.Proofs.YtejpkjcjoengbaaGreatDoor
set_option linter.unusedVariables false
set_option linter.unusedSimpArgs false
namespace Go.Proofs.YtejpkjcjoengbaaGreatDoor
open Go.RowKit

/-- A text of bytes. -/
abbrev bs (l : List UInt8) : ByteArray := ⟨l.toArray⟩
def innerU (c : UInt8) : Bool := innerB (c.toNat : Int)
def runF (l : List UInt8) : List UInt8 := l.takeWhile innerU

theorem bs_list (l : List UInt8) : (bs l).data.toList = l := rfl
theorem bs_of (s : ByteArray) : bs s.data.toList = s := rfl
theorem bs_size (l : List UInt8) : (bs l).size = l.length := by simp [bs, ByteArray.size]
theorem size_list (s : ByteArray) : s.size = s.data.toList.length := rfl
theorem get_list (s : ByteArray) (k : Nat) (h : k < s.size) : s.data.toList[k]'(by rw [← size_list]; exact h) = s[k] := rfl
theorem extract_bs (s : ByteArray) (k : Nat) : s.extract 0 k = bs (s.data.toList.take k) := by
  apply ByteArray.ext
  apply Array.toList_inj.1
  simp [bs]
theorem takeWhile_take {α : Type} (p : α → Bool) (l : List α) (k : Nat) (hk : k ≤ l.length) (h : ∀ j (hj : j < l.length), j < k → p l[j] = true) (he : ∀ hk : k < l.length, p (l[k]'hk) = false) : l.takeWhile p = l.take k := by
  induction l generalizing k with
  | nil => simp
  | cons a l ih =>
    cases k with
    | zero => have := he (by simp); simp at this; simp [this]
    | succ k =>
      have h0 := h 0 (by simp) (by omega)
      simp at h0
      simp only [List.takeWhile_cons, h0, if_true, List.take_succ_cons]
      rw [ih k (by simpa using hk) (fun j hj hjk => by have := h (j + 1) (by simp; omega) (by omega); simpa using this) (fun hk' => by have := he (by simp; omega); simpa using this)]
theorem run_end (s : ByteArray) (k : Nat) (hk : k ≤ s.size) (h : ∀ j (hj : j < s.size), j < k → innerU s[j] = true) (he : ∀ hk : k < s.size, innerU (s[k]'hk) = false) : s.extract 0 k = bs (runF s.data.toList) := by
  rw [extract_bs]
  unfold runF
  rw [takeWhile_take innerU s.data.toList k (by rw [← size_list]; exact hk) (fun j hj hjk => h j (by rw [size_list]; exact hj) hjk) (fun hk' => he (by rw [size_list]; exact hk'))]

set_option maxHeartbeats 400000 in
theorem lex_run (s : ByteArray) (w : World) (hs : s.size ≤ maxLen) :
    Calls Tryz.prog 100 #[.string s] w fun e w' => e = .returned (.string (bs (runF s.data.toList))) ∧ w = w' := by
  unfold maxLen at hs
  go_enter Tryz.func100, Tryz.ntmps100
  go_wp2
  go_loop [3] (fun i => ∃ k : Nat, k ≤ s.size ∧ i = .int .i64 k ∧ Hid (∀ j (hj : j < s.size), j < k → innerU s[j] = true)) (fun i => s.size - (intOf i).toNat)
  case atStart => exact ⟨0, Nat.zero_le _, rfl, fun j hj h => by omega⟩
  case round =>
    obtain ⟨k, hk, rfl, hall⟩ := hrel
    by_cases hlt : k < s.size
    · go_wp2_with (go_at_call 106; refine (lex_inner _ _ (by omega) (by have := (s[k]'hlt).toNat_lt; omega)).mono ?_; rintro e w' ⟨rfl, rfl⟩)
      · have hin : innerB ↑s[k].toNat = true := by assumption
        go_round
        case rel =>
          refine ⟨k + 1, by omega, by go_num, fun j hj hjk => ?_⟩
          by_cases e : j = k
          · subst e; exact hin
          · exact hall.out j hj (by omega)
        case measure => simp [intOf]; omega
      · have hin : innerB ↑s[k].toNat = false := by assumption
        go_ret
        exact ⟨ret_str (run_end s k hk hall.out (fun _ => hin)), rfl⟩
    · go_wp2
      go_ret
      exact ⟨ret_str (run_end s k hk hall.out (fun h => absurd h hlt)), rfl⟩
end Go.Proofs.YtejpkjcjoengbaaGreatDoor
set_option linter.unusedVariables false
set_option linter.unusedSimpArgs false
namespace Go.Proofs.YtejpkjcjoengbaaGreatDoor
open Go.RowKit

theorem infoByte : (Tryz.prog.info? 5).map (fun i => (i.zero, i.size, i.bytes)) = some (some (.int .u8 0), 1, 1) := by kernel_rfl
theorem sizeBuilder : (Tryz.prog.info? 147).map (·.size) = some 2 := by kernel_rfl
theorem liesBuilder : liesAt Tryz.prog Tryz.prog.depth 147 (2 / Tryz.prog.cellsOf 147) 0 147 1 = true := by kernel_rfl

set_option maxHeartbeats 1000000 in
set_option maxRecDepth 100000 in
theorem copyCheck_used (b : Nat) (w : World) (h0 : w.cell? ⟨b, 0, none⟩ = some (.pointer (some ⟨b, 0, none⟩))) :
    Calls Tryz.prog 118 #[.pointer (some ⟨b, 0, none⟩)] w fun e w' => e = .returned (.tuple #[]) ∧ w' = w := by
  obtain ⟨j, hj, _⟩ := Option.map_eq_some_iff.1 sizeBuilder
  go_enter Tryz.func118, Tryz.ntmps118
  go_wp2
  rw [Lib.run_neq_ptr_same w _ Tryz.underlying145 hj]
  go_wp2
  go_end0
  exact ⟨rfl, rfl⟩

set_option maxHeartbeats 1000000 in
set_option maxRecDepth 100000 in
theorem copyCheck_fresh (b : Nat) (w : World) (h0 : w.cell? ⟨b, 0, none⟩ = some (.pointer none)) (hsh : w.shape? b = some (147, 2)) (hfz : w.frozen? ⟨b, 0, none⟩ = false) :
    Calls Tryz.prog 118 #[.pointer (some ⟨b, 0, none⟩)] w fun e w' => e = .returned (.tuple #[]) ∧ w' = w.setCell ⟨b, 0, none⟩ (.pointer (some ⟨b, 0, none⟩)) := by
  obtain ⟨j, hj, hjs⟩ := Option.map_eq_some_iff.1 sizeBuilder
  go_enter Tryz.func118, Tryz.ntmps118
  go_wp2
  rw [Lib.run_to_unsafe w ⟨b, 0, none⟩ Tryz.underlying145 Tryz.underlying78 hj (by rw [hjs]; decide) hsh (Nat.zero_lt_succ 1)]
  simp only [Result.andThen]
  rw [Oper.upon_value]
  go_wp2
  rw [run_callFunc_extern Tryz.func142 (by kernel_rfl) (by kernel_rfl) (by kernel_rfl) (e := Extern.AbiNoEscape.same) (by kernel_rfl)]
  rw [Lib.run_noEscape]
  simp only [Result.andThen]
  rw [Oper.upon_value]
  go_wp2
  rw [Lib.run_from_unsafe w ⟨b, 0, none⟩ Tryz.underlying78 Tryz.underlying145 hj hsh liesBuilder]
  simp only [Result.andThen]
  rw [Oper.upon_value]
  go_wp2
  go_end0
  exact ⟨rfl, rfl⟩

theorem copyCheck_any (B b : Nat) (bs : List Value) (w : World) (h : Lib.IsBuilder 147 5 B b bs w) :
    Calls Tryz.prog 118 #[.pointer (some ⟨b, 0, none⟩)] w fun e w' => e = .returned (.tuple #[]) ∧ (Lib.BuilderAt 147 5 B b (.pointer (some ⟨b, 0, none⟩)) bs w' ∧ Below B w w') := by
  rcases h with h | h
  · refine (copyCheck_fresh b w h.cell0 h.shape h.frozen0).mono ?_
    rintro e w' ⟨rfl, rfl⟩
    exact ⟨rfl, h.used _, (Below.refl B w).setCell (p := ⟨b, 0, none⟩) h.1 _⟩
  · refine (copyCheck_used b w h.cell0).mono ?_
    rintro e w' ⟨rfl, rfl⟩
    exact ⟨rfl, h, Below.refl B _⟩

set_option maxHeartbeats 1000000 in
set_option maxRecDepth 100000 in
theorem writeByte (B b : Nat) (bs : List Value) (c : Int) (w : World) (h : Lib.IsBuilder 147 5 B b bs w) (hlen : bs.length + 1 ≤ 140737488355328) (hBw : B ≤ w.heap.size) :
    Calls Tryz.prog 130 #[.pointer (some ⟨b, 0, none⟩), .int .u8 c] w fun e w' => e = .returned .nilIface ∧ (Lib.BuilderAt 147 5 B b (.pointer (some ⟨b, 0, none⟩)) (bs ++ [.int .u8 c]) w' ∧ Below B w w') := by
  obtain ⟨i0, hi, hz0, hz1, hz2⟩ := info_parts infoByte
  go_enter Tryz.func130, Tryz.ntmps130
  go_wp2_with (go_at_call 118; refine (copyCheck_any B b bs _ h).mono ?_)
  rintro e w1 ⟨rfl, h1, hb1⟩
  obtain ⟨hB, v, hbk, hown, hne⟩ := h1
  have c0 : w1.cell? ⟨b, 0, none⟩ = some (.pointer (some ⟨b, 0, none⟩)) := by rw [Lib.cell_of_heap hbk]; rfl
  have c1 : w1.cell? ⟨b, 1, none⟩ = some v := by rw [Lib.cell_of_heap hbk]; rfl
  go_wp2_with (at_builtin; refine wpList_append_own _ rfl _ _ 29 rfl B 5 i0 (.int .u8 0) 1 1 Tryz.underlying29 hi hz0 hz1 hz2 rfl (by decide) _ _ _ rfl (hown.alloc _) ⟨w1.heap.size, 0, none⟩ 1 1 [.int .u8 c] rfl rfl ?c1 ?c2 ?c3 ?c4 ?c5 ?_)
  case c1 =>
    intro j u hj
    match j, hj with
    | 0, hj => simp at hj; subst hj; simp [Addr.add]
  case c2 => intro u hu; simp at hu; subst hu; rfl
  case c3 => unfold maxLen; omega
  case c4 => omega
  case c5 => have := hb1.size; simp; omega
  intro v' w2 hown' hgrow _
  have hlt : b < w1.heap.size := by
    rcases Nat.lt_or_ge b w1.heap.size with h' | h'
    · exact h'
    · simp [Array.getElem?_eq_none h'] at hbk
  have hb2 : w2.heap[b]? = some (.cells #[.pointer (some ⟨b, 0, none⟩), v] 147 (0, 0)) := by
    rw [hgrow.block b (by simp; omega) (fun e => hne e.symm), Lib.alloc_old w1 _ b hlt]
    exact hbk
  have d0 : w2.cell? ⟨b, 0, none⟩ = some (.pointer (some ⟨b, 0, none⟩)) := by rw [Lib.cell_of_heap hb2]; rfl
  have d1 : w2.cell? ⟨b, 1, none⟩ = some v := by rw [Lib.cell_of_heap hb2]; rfl
  have f1 : w2.frozen? ⟨b, 1, none⟩ = false := Lib.frozen_of_heap hb2 1
  obtain ⟨g, cap, rfl⟩ : ∃ g cap, v' = .slice (some ⟨g, 0, none⟩) (bs.length + 1) cap := by
    rcases hown'.2 with ⟨_, h0⟩ | ⟨g, cap, cur, hv, _⟩
    · omega
    · exact ⟨g, cap, hv⟩
  go_wp2
  go_ret
  refine ⟨rfl, ?_, ?_⟩
  · exact Lib.BuilderAt.put (T := 147) (e := 5) hB hb2 (bs' := bs ++ [.int .u8 c]) (by simpa using hown') (by decide)
  · exact ((hb1.alloc (by have := hb1.size; omega) _).grown hgrow (by have := hb1.size; simp; omega) (fun k hk => (hown.lt k hk).1)).setCell (p := ⟨b, 1, none⟩) hB _

set_option maxHeartbeats 1000000 in
set_option maxRecDepth 100000 in
theorem writeString (B b : Nat) (bs : List Value) (s : ByteArray) (w : World) (h : Lib.IsBuilder 147 5 B b bs w) (hlen : bs.length + s.size ≤ 140737488355328) (hBw : B ≤ w.heap.size) :
    Calls Tryz.prog 80 #[.pointer (some ⟨b, 0, none⟩), .string s] w fun e w' => e = .returned (.tuple #[.int .i64 s.size, .nilIface]) ∧ (Lib.BuilderAt 147 5 B b (.pointer (some ⟨b, 0, none⟩)) (bs ++ Lib.strCells s) w' ∧ Below B w w') := by
  obtain ⟨i0, hi, hz0, hz1, hz2⟩ := info_parts infoByte
  go_enter Tryz.func80, Tryz.ntmps80
  go_wp2_with (go_at_call 118; refine (copyCheck_any B b bs _ h).mono ?_)
  rintro e w1 ⟨rfl, h1, hb1⟩
  obtain ⟨hB, v, hbk, hown, hne⟩ := h1
  have c0 : w1.cell? ⟨b, 0, none⟩ = some (.pointer (some ⟨b, 0, none⟩)) := by rw [Lib.cell_of_heap hbk]; rfl
  have c1 : w1.cell? ⟨b, 1, none⟩ = some v := by rw [Lib.cell_of_heap hbk]; rfl
  go_wp2_with (at_builtin; refine Lib.wpList_append_own_string _ rfl _ _ 29 9 rfl B 5 i0 Tryz.underlying29 Tryz.underlying9 hi hz0 hz1 hz2 _ _ _ rfl hown s rfl ?c3 ?c4 ?c5 ?_)
  case c3 => unfold maxLen; omega
  case c4 => omega
  case c5 => have := hb1.size; omega
  intro v' w2 hown' hgrow _
  have hlt : b < w1.heap.size := by
    rcases Nat.lt_or_ge b w1.heap.size with h' | h'
    · exact h'
    · simp [Array.getElem?_eq_none h'] at hbk
  have hb2 : w2.heap[b]? = some (.cells #[.pointer (some ⟨b, 0, none⟩), v] 147 (0, 0)) := by
    rw [hgrow.block b hlt (fun e => hne e.symm)]
    exact hbk
  have d0 : w2.cell? ⟨b, 0, none⟩ = some (.pointer (some ⟨b, 0, none⟩)) := by rw [Lib.cell_of_heap hb2]; rfl
  have d1 : w2.cell? ⟨b, 1, none⟩ = some v := by rw [Lib.cell_of_heap hb2]; rfl
  have f1 : w2.frozen? ⟨b, 1, none⟩ = false := Lib.frozen_of_heap hb2 1
  obtain ⟨ao, n', cap, rfl⟩ : ∃ ao n' cap, v' = .slice ao n' cap := by
    rcases hown'.2 with ⟨hv, _⟩ | ⟨g, cap, cur, hv, _⟩
    · exact ⟨_, _, _, hv⟩
    · exact ⟨_, _, _, hv⟩
  go_wp2
  go_ret2
  refine ⟨rfl, ?_, ?_⟩
  · exact Lib.BuilderAt.put (T := 147) (e := 5) hB hb2 (bs' := bs ++ Lib.strCells s) (by simpa [Lib.strCells_length] using hown') (by decide)
  · exact (hb1.grown hgrow (by have := hb1.size; omega) (fun k hk => (hown.lt k hk).1)).setCell (p := ⟨b, 1, none⟩) hB _
end Go.Proofs.YtejpkjcjoengbaaGreatDoor
set_option linter.unusedVariables false
set_option linter.unusedSimpArgs false
namespace Go.Proofs.YtejpkjcjoengbaaGreatDoor
open Go.RowKit

def digits10 : List UInt8 := [48, 49, 50, 51, 52, 53, 54, 55, 56, 57]
/-- lex.number, of a text that is not empty. -/
def numberF (l : List UInt8) : Bool := decide (l.length ≤ 15) && (Lib.trimS l digits10).isEmpty && !decide (0 ≤ Lib.indexByte l 39) && (l == [48] || l.head? != some 48)

theorem lex_trim (s : ByteArray) (w : World) (hs : s.size ≤ maxLen) :
    Calls Tryz.prog 27 #[.string s, .string ⟨#[48, 49, 50, 51, 52, 53, 54, 55, 56, 57]⟩] w fun e w' => e = .returned (.string ⟨(Lib.trimS s.data.toList digits10).toArray⟩) ∧ Below w.heap.size w w' :=
  Any.strings_Trim_laid Tryz.lays160 (by kernel_rfl) s _ w (by unfold maxLen at hs; omega) (by decide) (ascii_of_all (by decide))

theorem head_byte (s : ByteArray) (h0 : 0 < s.size) (c : UInt8) : (((s[0]'h0).toNat : Int) != (c.toNat : Int)) = (s.data.toList.head? != some c) := by
  obtain ⟨⟨l⟩⟩ := s
  match l, h0 with
  | a :: l, _ =>
    show ((a.toNat : Int) != (c.toNat : Int)) = _
    simp only [List.head?_cons]
    rw [Bool.eq_iff_iff]
    simp only [bne_iff_ne, ne_eq, Option.some.injEq]
    rw [← UInt8.toNat_inj]
    omega
theorem toList_eq (s : ByteArray) : s.toList = s.data.toList := Lib.toList_data s

set_option maxHeartbeats 400000 in
theorem lex_number (s : ByteArray) (w : World) (hs : s.size ≤ maxLen) (h0 : 0 < s.size) :
    Calls Tryz.prog 105 #[.string s] w fun e w' => e = .returned (.bool (numberF s.data.toList)) ∧ Below w.heap.size w w' := by
  have hs' := hs
  unfold maxLen at hs
  have hh := head_byte s h0 48
  have HH := Lib.hid hh
  clear hh
  by_cases hl : s.size ≤ 15
  · go_enter Tryz.func105, Tryz.ntmps105
    go_wp2_with (go_at_call 27; refine (lex_trim s _ hs').mono ?_)
    rintro e w1 ⟨rfl, hb⟩
    go_wp2_with (first | (go_at_call 132; refine (Tryz.strings_Contains_one s 39 _).mono ?_; rintro e w' ⟨rfl, rfl⟩))
    all_goals go_ret
    all_goals refine ⟨ret_bool ?_, hb⟩
    all_goals have hh := HH.out
    all_goals rw [show ((48 : UInt8).toNat : Int) = 48 from rfl] at hh
    all_goals try simp only [toList_eq] at *
    all_goals (simp [numberF, *] <;> decide)
  · go_enter Tryz.func105, Tryz.ntmps105
    go_wp2
    go_ret
    refine ⟨ret_bool ?_, Below.refl _ _⟩
    simp [numberF, hl]
end Go.Proofs.YtejpkjcjoengbaaGreatDoor
set_option linter.unusedVariables false
set_option linter.unusedSimpArgs false
namespace Go.Proofs.YtejpkjcjoengbaaGreatDoor
open Go.RowKit

/-- What a byte behind a backslash stands for. -/
def escF (d : UInt8) : Option UInt8 := if d = 110 then some 10 else if d = 116 then some 9 else if d = 92 then some 92 else if d = 34 then some 34 else none
/-- lex.text from byte i on: what is left, what was read. -/
def textGo : List UInt8 → Nat → List UInt8 → List UInt8 × Nat
  | [], _, _ => ([], 0)
  | c :: r, i, acc =>
    if c = 34 then (if acc.length > 4000 then ([], 0) else (acc, i + 1))
    else if c = 92 then
      match r with
      | [] => ([], 0)
      | d :: r' => match escF d with
        | none => ([], 0)
        | some e => textGo r' (i + 2) (acc ++ [e])
    else if c.toNat < 32 ∨ c.toNat > 126 then ([], 0)
    else textGo r (i + 1) (acc ++ [c])
theorem textGo_cons (c : UInt8) (r : List UInt8) (i : Nat) (acc : List UInt8) : textGo (c :: r) i acc =
    if c = 34 then (if acc.length > 4000 then ([], 0) else (acc, i + 1))
    else if c = 92 then
      match r with
      | [] => ([], 0)
      | d :: r' => match escF d with
        | none => ([], 0)
        | some e => textGo r' (i + 2) (acc ++ [e])
    else if c.toNat < 32 ∨ c.toNat > 126 then ([], 0)
    else textGo r (i + 1) (acc ++ [c]) := by cases r <;> rfl
def textF (l : List UInt8) : List UInt8 × Nat := textGo (l.drop 1) 1 []

def escK (d : UInt8) : Int := Lib.indexByte [110, 116, 92, 34] d
theorem escF_index (d : UInt8) : (escF d = none ∧ escK d = -1) ∨ (escF d = some 10 ∧ escK d = 0) ∨ (escF d = some 9 ∧ escK d = 1) ∨
    (escF d = some 92 ∧ escK d = 2) ∨ (escF d = some 34 ∧ escK d = 3) := by
  unfold escF escK
  by_cases h1 : d = 110
  · subst h1; exact .inr (.inl ⟨rfl, by decide⟩)
  by_cases h2 : d = 116
  · subst h2; exact .inr (.inr (.inl ⟨rfl, by decide⟩))
  by_cases h3 : d = 92
  · subst h3; exact .inr (.inr (.inr (.inl ⟨rfl, by decide⟩)))
  by_cases h4 : d = 34
  · subst h4; exact .inr (.inr (.inr (.inr ⟨rfl, by decide⟩)))
  refine .inl ⟨by simp [h1, h2, h3, h4], ?_⟩
  simp [Lib.indexByte, Ne.symm h1, Ne.symm h2, Ne.symm h3, Ne.symm h4]
theorem idx_esc (d : UInt8) (w : World) : Calls Tryz.prog 72 #[.string ⟨#[110, 116, 92, 34]⟩, .int .u8 d.toNat] w fun e w' => e = .returned (.int .i64 (escK d)) ∧ w = w' := by
  refine (Tryz.strings_IndexByte ⟨#[110, 116, 92, 34]⟩ d.toNat w).mono ?_
  rintro e w' ⟨rfl, rfl⟩
  exact ⟨ret_int (by simp [escK]), rfl⟩

def TextInv (s : ByteArray) (B b k : Nat) (acc : List UInt8) (w0 w : World) : Prop :=
  textGo (s.data.toList.drop k) k acc = textF s.data.toList ∧ Lib.IsBuilder 147 5 B b (Lib.byteCells acc) w ∧ Below B w0 w ∧ acc.length ≤ k ∧ B ≤ w.heap.size

theorem drop_at (s : ByteArray) (k : Nat) (h : k < s.size) : s.data.toList.drop k = s[k] :: s.data.toList.drop (k + 1) := by
  rw [List.drop_eq_getElem_cons (by rw [← size_list]; exact h)]; rfl
theorem text_quote {s : ByteArray} {B b k : Nat} {acc : List UInt8} {w0 w : World} (h : TextInv s B b k acc w0 w) (hk : k < s.size) (hq : s[k] = 34) :
    textF s.data.toList = if acc.length > 4000 then ([], 0) else (acc, k + 1) := by
  have := h.1
  rw [drop_at s k hk, textGo_cons, if_pos hq] at this
  exact this.symm
theorem text_end {s : ByteArray} {B b k : Nat} {acc : List UInt8} {w0 w : World} (h : TextInv s B b k acc w0 w) (hk : ¬ k < s.size) : textF s.data.toList = ([], 0) := by
  have := h.1
  rw [List.drop_eq_nil_of_le (by rw [← size_list]; omega)] at this
  exact this.symm
theorem text_slash_end {s : ByteArray} {B b k : Nat} {acc : List UInt8} {w0 w : World} (h : TextInv s B b k acc w0 w) (hk : k < s.size) (hq : s[k] = 92) (hk1 : ¬ k + 1 < s.size) : textF s.data.toList = ([], 0) := by
  have := h.1
  rw [drop_at s k hk, List.drop_eq_nil_of_le (by rw [← size_list]; omega), textGo_cons, if_neg (by rw [hq]; decide), if_pos hq] at this
  exact this.symm
theorem text_slash {s : ByteArray} {B b k : Nat} {acc : List UInt8} {w0 w : World} (h : TextInv s B b k acc w0 w) (hk : k + 1 < s.size) (hq : s[k] = 92) :
    textF s.data.toList = match escF s[k + 1] with | none => ([], 0) | some e => textGo (s.data.toList.drop (k + 2)) (k + 2) (acc ++ [e]) := by
  have := h.1
  rw [drop_at s k (by omega), drop_at s (k + 1) hk, textGo_cons, if_neg (by rw [hq]; decide), if_pos hq] at this
  exact this.symm
theorem text_odd {s : ByteArray} {B b k : Nat} {acc : List UInt8} {w0 w : World} (h : TextInv s B b k acc w0 w) (hk : k < s.size) (h1 : s[k] ≠ 34) (h2 : s[k] ≠ 92) (h3 : s[k].toNat < 32 ∨ s[k].toNat > 126) : textF s.data.toList = ([], 0) := by
  have := h.1
  rw [drop_at s k hk, textGo_cons, if_neg h1, if_neg h2, if_pos h3] at this
  exact this.symm
theorem text_plain {s : ByteArray} {B b k : Nat} {acc : List UInt8} {w0 w : World} (h : TextInv s B b k acc w0 w) (hk : k < s.size) (h1 : s[k] ≠ 34) (h2 : s[k] ≠ 92) (h3 : ¬ (s[k].toNat < 32 ∨ s[k].toNat > 126)) :
    textGo (s.data.toList.drop (k + 1)) (k + 1) (acc ++ [s[k]]) = textF s.data.toList := by
  have := h.1
  rw [drop_at s k hk, textGo_cons, if_neg h1, if_neg h2, if_neg h3] at this
  exact this
theorem text_wrote {s : ByteArray} {B b k k' : Nat} {acc : List UInt8} {c : UInt8} {w0 w w1 : World} (h : TextInv s B b k acc w0 w) (hk : k < k') (he : textGo (s.data.toList.drop k') k' (acc ++ [c]) = textF s.data.toList)
    (hb : Lib.BuilderAt 147 5 B b (.pointer (some ⟨b, 0, none⟩)) (Lib.byteCells acc ++ [.int .u8 c.toNat]) w1) (hw : Below B w w1) : TextInv s B b k' (acc ++ [c]) w0 w1 := by
  obtain ⟨_, _, h3, h4, h5⟩ := h
  refine ⟨he, .inr ?_, h3.trans hw, by simp; omega, Nat.le_trans h5 hw.size⟩
  simpa [Lib.byteCells] using hb
theorem byte_eq (x : UInt8) (c : UInt8) (n : Int) (hn : (c.toNat : Int) = n) : ((x.toNat : Int) == n) = decide (x = c) := by
  rw [Bool.eq_iff_iff]
  simp only [beq_iff_eq, decide_eq_true_eq, ← UInt8.toNat_inj]
  omega

set_option maxHeartbeats 2000000 in
set_option maxRecDepth 100000 in
theorem lex_text (s : ByteArray) (w : World) (hs : s.size ≤ 65536) :
    Calls Tryz.prog 101 #[.string s] w fun e w' => e = .returned (.tuple #[.string ⟨(textF s.data.toList).1.toArray⟩, .int .i64 (textF s.data.toList).2]) ∧ Below w.heap.size w w' := by
  go_enter Tryz.func101, Tryz.ntmps101
  go_wp2
  go_loopw [5] (fun i wr => ∃ (k : Nat) (acc : List UInt8), 1 ≤ k ∧ i = .int .i64 k ∧ TextInv s w.heap.size w.heap.size k acc w wr) (fun i wr => s.size + 1 - (intOf i).toNat)
  case atStart => exact ⟨1, [], by omega, rfl, rfl, Lib.fresh_isBuilder _ _ w, (Below.refl _ _).alloc (Nat.le_refl _) _, by simp, by simp⟩
  case round =>
    obtain ⟨k, acc, hk, rfl, hinv⟩ := hrel
    have hbld := hinv.2.1
    have hbel := hinv.2.2.1
    have hsz := hinv.2.2.2.2
    have hacc := hinv.2.2.2.1
    by_cases hlt : k < s.size
    · have hwr : (Lib.byteCells acc).length + 1 ≤ 140737488355328 := by rw [Lib.byteCells_length]; omega
      by_cases hq : s[k] = 34
      · have q1 : ((s[k].toNat : Int) == 34) = true := by rw [byte_eq s[k] 34 34 rfl]; simpa using hq
        have hfin := text_quote hinv hlt hq
        have HF := Lib.hid hfin
        clear hfin hq
        have hbl : (Lib.byteCells acc).length = acc.length := Lib.byteCells_length acc
        have HL := Lib.hid hbl
        clear hbl
        by_cases hbig : 4000 < acc.length
        · go_wp2_with (go_at_call 129; refine (Tryz.Builder_Len _ _ _ _ hbld).mono ?_; rintro e w' ⟨rfl, rfl⟩; rw [HL.out])
          go_ret2
          rw [HF.out, if_pos hbig]
          exact ⟨rfl, hbel⟩
        · go_wp2_with (first | (go_at_call 129; refine (Tryz.Builder_Len _ _ _ _ hbld).mono ?_; rintro e w' ⟨rfl, rfl⟩; rw [HL.out]) | (go_at_call 81; refine (Tryz.Builder_String_any _ _ _ _ hbld hsz).mono ?_; rintro e w1 ⟨rfl, hb1⟩))
          go_ret2
          rw [HF.out, if_neg (by omega)]
          exact ⟨rfl, hbel.trans (hb1.mono (Nat.le_refl _))⟩
      · have q1 : ((s[k].toNat : Int) == 34) = false := by rw [byte_eq s[k] 34 34 rfl]; simpa using hq
        by_cases he : s[k] = 92
        · have q2 : ((s[k].toNat : Int) == 92) = true := by rw [byte_eq s[k] 92 92 rfl]; simpa using he
          by_cases hk1 : k + 1 < s.size
          · have hfin := text_slash hinv hk1 he
            have HF := Lib.hid hfin
            clear hfin he hq
            go_wp2_with (go_at_call 72; refine (idx_esc _ _).mono ?_)
            rintro e w1 ⟨rfl, rfl⟩
            rcases escF_index s[k + 1] with ⟨h1, h2⟩ | ⟨h1, h2⟩ | ⟨h1, h2⟩ | ⟨h1, h2⟩ | ⟨h1, h2⟩
            · rw [h2]
              have HF1 := Lib.hid h1
              clear h1 h2
              go_wp2
              go_ret2
              rw [HF.out, HF1.out]
              exact ⟨rfl, hbel⟩
            all_goals
              rw [h2]
              have HF1 := Lib.hid h1
              clear h1 h2
              go_wp2_with (go_at_call 130; refine (writeByte _ _ _ _ _ hbld hwr hsz).mono ?_; rintro e w1 ⟨rfl, hb1, hb2⟩)
              go_roundw
              case rel =>
                have hfin := HF.out
                rw [HF1.out] at hfin
                exact ⟨k + 2, _, by omega, by go_num, text_wrote hinv (by omega) hfin.symm hb1 hb2⟩
              case measure => simp [intOf]; omega
          · have hfin := text_slash_end hinv hlt he hk1
            have HF := Lib.hid hfin
            have hk2 : (s.size : Int) ≤ k + 1 := by omega
            clear hfin he hq
            go_wp2
            all_goals go_ways
            all_goals go_ret2
            all_goals rw [HF.out]
            all_goals exact ⟨rfl, hbel⟩
        · have q2 : ((s[k].toNat : Int) == 92) = false := by rw [byte_eq s[k] 92 92 rfl]; simpa using he
          by_cases ho : s[k].toNat < 32 ∨ s[k].toNat > 126
          · have hfin := text_odd hinv hlt hq he ho
            have HF := Lib.hid hfin
            clear hfin he hq
            rcases ho with ho | ho
            all_goals
              go_wp2
              go_ret2
              rw [HF.out]
              exact ⟨rfl, hbel⟩
          · have hfin := text_plain hinv hlt hq he ho
            have HF := Lib.hid hfin
            have ho1 : 32 ≤ s[k].toNat := by omega
            have ho2 : s[k].toNat ≤ 126 := by omega
            clear hfin he hq ho
            go_wp2_with (go_at_call 130; refine (writeByte _ _ _ _ _ hbld hwr hsz).mono ?_; rintro e w1 ⟨rfl, hb1, hb2⟩)
            go_roundw
            case rel => exact ⟨k + 1, _, by omega, by go_num, text_wrote hinv (by omega) HF.out hb1 hb2⟩
            case measure => simp [intOf]; omega
    · go_wp2
      go_ret2
      rw [text_end hinv hlt]
      exact ⟨rfl, hbel⟩
end Go.Proofs.YtejpkjcjoengbaaGreatDoor
