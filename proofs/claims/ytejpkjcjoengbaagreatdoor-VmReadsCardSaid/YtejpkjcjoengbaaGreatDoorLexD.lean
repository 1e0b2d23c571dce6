/-
  lex.text (a text between quotes), by walk.
-/
import Derived.Test.YtejpkjcjoengbaaGreatDoorLexC
set_option linter.unusedVariables false
set_option linter.unusedSimpArgs false
namespace Go.Proofs.YtejpkjcjoengbaaGreatDoor
open Go.RowKit

/-- What a byte behind a backslash stands for. -/
def escF (d : UInt8) : Option UInt8 := if d = 110 then some 10 else if d = 116 then some 9 else if d = 92 then some 92 else if d = 34 then some 34 else none
/-- lex.text from byte i on: what is left, what was read. -/
def textGo : List UInt8 → Nat → List UInt8 → List UInt8 × Nat
  | [], _, _ => ([], 0)
  | c :: r, i, acc =>
    if c = 34 then (if acc.length > 4000 then ([], 0) else (acc, i + 1))
    else if c = 92 then
      match r with
      | [] => ([], 0)
      | d :: r' => match escF d with
        | none => ([], 0)
        | some e => textGo r' (i + 2) (acc ++ [e])
    else if c.toNat < 32 ∨ c.toNat > 126 then ([], 0)
    else textGo r (i + 1) (acc ++ [c])
theorem textGo_cons (c : UInt8) (r : List UInt8) (i : Nat) (acc : List UInt8) : textGo (c :: r) i acc =
    if c = 34 then (if acc.length > 4000 then ([], 0) else (acc, i + 1))
    else if c = 92 then
      match r with
      | [] => ([], 0)
      | d :: r' => match escF d with
        | none => ([], 0)
        | some e => textGo r' (i + 2) (acc ++ [e])
    else if c.toNat < 32 ∨ c.toNat > 126 then ([], 0)
    else textGo r (i + 1) (acc ++ [c]) := by cases r <;> rfl
def textF (l : List UInt8) : List UInt8 × Nat := textGo (l.drop 1) 1 []

def escK (d : UInt8) : Int := Lib.indexByte [110, 116, 92, 34] d
theorem escF_index (d : UInt8) : (escF d = none ∧ escK d = -1) ∨ (escF d = some 10 ∧ escK d = 0) ∨ (escF d = some 9 ∧ escK d = 1) ∨
    (escF d = some 92 ∧ escK d = 2) ∨ (escF d = some 34 ∧ escK d = 3) := by
  unfold escF escK
  by_cases h1 : d = 110
  · subst h1; exact .inr (.inl ⟨rfl, by decide⟩)
  by_cases h2 : d = 116
  · subst h2; exact .inr (.inr (.inl ⟨rfl, by decide⟩))
  by_cases h3 : d = 92
  · subst h3; exact .inr (.inr (.inr (.inl ⟨rfl, by decide⟩)))
  by_cases h4 : d = 34
  · subst h4; exact .inr (.inr (.inr (.inr ⟨rfl, by decide⟩)))
  refine .inl ⟨by simp [h1, h2, h3, h4], ?_⟩
  simp [Lib.indexByte, Ne.symm h1, Ne.symm h2, Ne.symm h3, Ne.symm h4]
theorem idx_esc (d : UInt8) (w : World) : Calls Tryz.prog 72 #[.string ⟨#[110, 116, 92, 34]⟩, .int .u8 d.toNat] w fun e w' => e = .returned (.int .i64 (escK d)) ∧ w = w' := by
  refine (Tryz.strings_IndexByte ⟨#[110, 116, 92, 34]⟩ d.toNat w).mono ?_
  rintro e w' ⟨rfl, rfl⟩
  exact ⟨ret_int (by simp [escK]), rfl⟩

def TextInv (s : ByteArray) (B b k : Nat) (acc : List UInt8) (w0 w : World) : Prop :=
  textGo (s.data.toList.drop k) k acc = textF s.data.toList ∧ Lib.IsBuilder 147 5 B b (Lib.byteCells acc) w ∧ Below B w0 w ∧ acc.length ≤ k ∧ B ≤ w.heap.size

theorem drop_at (s : ByteArray) (k : Nat) (h : k < s.size) : s.data.toList.drop k = s[k] :: s.data.toList.drop (k + 1) := by
  rw [List.drop_eq_getElem_cons (by rw [← size_list]; exact h)]; rfl
theorem text_quote {s : ByteArray} {B b k : Nat} {acc : List UInt8} {w0 w : World} (h : TextInv s B b k acc w0 w) (hk : k < s.size) (hq : s[k] = 34) :
    textF s.data.toList = if acc.length > 4000 then ([], 0) else (acc, k + 1) := by
  have := h.1
  rw [drop_at s k hk, textGo_cons, if_pos hq] at this
  exact this.symm
theorem text_end {s : ByteArray} {B b k : Nat} {acc : List UInt8} {w0 w : World} (h : TextInv s B b k acc w0 w) (hk : ¬ k < s.size) : textF s.data.toList = ([], 0) := by
  have := h.1
  rw [List.drop_eq_nil_of_le (by rw [← size_list]; omega)] at this
  exact this.symm
theorem text_slash_end {s : ByteArray} {B b k : Nat} {acc : List UInt8} {w0 w : World} (h : TextInv s B b k acc w0 w) (hk : k < s.size) (hq : s[k] = 92) (hk1 : ¬ k + 1 < s.size) : textF s.data.toList = ([], 0) := by
  have := h.1
  rw [drop_at s k hk, List.drop_eq_nil_of_le (by rw [← size_list]; omega), textGo_cons, if_neg (by rw [hq]; decide), if_pos hq] at this
  exact this.symm
theorem text_slash {s : ByteArray} {B b k : Nat} {acc : List UInt8} {w0 w : World} (h : TextInv s B b k acc w0 w) (hk : k + 1 < s.size) (hq : s[k] = 92) :
    textF s.data.toList = match escF s[k + 1] with | none => ([], 0) | some e => textGo (s.data.toList.drop (k + 2)) (k + 2) (acc ++ [e]) := by
  have := h.1
  rw [drop_at s k (by omega), drop_at s (k + 1) hk, textGo_cons, if_neg (by rw [hq]; decide), if_pos hq] at this
  exact this.symm
theorem text_odd {s : ByteArray} {B b k : Nat} {acc : List UInt8} {w0 w : World} (h : TextInv s B b k acc w0 w) (hk : k < s.size) (h1 : s[k] ≠ 34) (h2 : s[k] ≠ 92) (h3 : s[k].toNat < 32 ∨ s[k].toNat > 126) : textF s.data.toList = ([], 0) := by
  have := h.1
  rw [drop_at s k hk, textGo_cons, if_neg h1, if_neg h2, if_pos h3] at this
  exact this.symm
theorem text_plain {s : ByteArray} {B b k : Nat} {acc : List UInt8} {w0 w : World} (h : TextInv s B b k acc w0 w) (hk : k < s.size) (h1 : s[k] ≠ 34) (h2 : s[k] ≠ 92) (h3 : ¬ (s[k].toNat < 32 ∨ s[k].toNat > 126)) :
    textGo (s.data.toList.drop (k + 1)) (k + 1) (acc ++ [s[k]]) = textF s.data.toList := by
  have := h.1
  rw [drop_at s k hk, textGo_cons, if_neg h1, if_neg h2, if_neg h3] at this
  exact this
theorem text_wrote {s : ByteArray} {B b k k' : Nat} {acc : List UInt8} {c : UInt8} {w0 w w1 : World} (h : TextInv s B b k acc w0 w) (hk : k < k') (he : textGo (s.data.toList.drop k') k' (acc ++ [c]) = textF s.data.toList)
    (hb : Lib.BuilderAt 147 5 B b (.pointer (some ⟨b, 0, none⟩)) (Lib.byteCells acc ++ [.int .u8 c.toNat]) w1) (hw : Below B w w1) : TextInv s B b k' (acc ++ [c]) w0 w1 := by
  obtain ⟨_, _, h3, h4, h5⟩ := h
  refine ⟨he, .inr ?_, h3.trans hw, by simp; omega, Nat.le_trans h5 hw.size⟩
  simpa [Lib.byteCells] using hb
theorem byte_eq (x : UInt8) (c : UInt8) (n : Int) (hn : (c.toNat : Int) = n) : ((x.toNat : Int) == n) = decide (x = c) := by
  rw [Bool.eq_iff_iff]
  simp only [beq_iff_eq, decide_eq_true_eq, ← UInt8.toNat_inj]
  omega

set_option maxHeartbeats 2000000 in
set_option maxRecDepth 100000 in
theorem lex_text (s : ByteArray) (w : World) (hs : s.size ≤ 65536) :
    Calls Tryz.prog 101 #[.string s] w fun e w' => e = .returned (.tuple #[.string ⟨(textF s.data.toList).1.toArray⟩, .int .i64 (textF s.data.toList).2]) ∧ Below w.heap.size w w' := by
  go_enter Tryz.func101, Tryz.ntmps101
  go_wp2
  go_loopw [5] (fun i wr => ∃ (k : Nat) (acc : List UInt8), 1 ≤ k ∧ i = .int .i64 k ∧ TextInv s w.heap.size w.heap.size k acc w wr) (fun i wr => s.size + 1 - (intOf i).toNat)
  case atStart => exact ⟨1, [], by omega, rfl, rfl, Lib.fresh_isBuilder _ _ w, (Below.refl _ _).alloc (Nat.le_refl _) _, by simp, by simp⟩
  case round =>
    obtain ⟨k, acc, hk, rfl, hinv⟩ := hrel
    have hbld := hinv.2.1
    have hbel := hinv.2.2.1
    have hsz := hinv.2.2.2.2
    have hacc := hinv.2.2.2.1
    by_cases hlt : k < s.size
    · have hwr : (Lib.byteCells acc).length + 1 ≤ 140737488355328 := by rw [Lib.byteCells_length]; omega
      by_cases hq : s[k] = 34
      · have q1 : ((s[k].toNat : Int) == 34) = true := by rw [byte_eq s[k] 34 34 rfl]; simpa using hq
        have hfin := text_quote hinv hlt hq
        have HF := Lib.hid hfin
        clear hfin hq
        have hbl : (Lib.byteCells acc).length = acc.length := Lib.byteCells_length acc
        have HL := Lib.hid hbl
        clear hbl
        by_cases hbig : 4000 < acc.length
        · go_wp2_with (go_at_call 129; refine (Tryz.Builder_Len _ _ _ _ hbld).mono ?_; rintro e w' ⟨rfl, rfl⟩; rw [HL.out])
          go_ret2
          rw [HF.out, if_pos hbig]
          exact ⟨rfl, hbel⟩
        · go_wp2_with (first | (go_at_call 129; refine (Tryz.Builder_Len _ _ _ _ hbld).mono ?_; rintro e w' ⟨rfl, rfl⟩; rw [HL.out]) | (go_at_call 81; refine (Tryz.Builder_String_any _ _ _ _ hbld hsz).mono ?_; rintro e w1 ⟨rfl, hb1⟩))
          go_ret2
          rw [HF.out, if_neg (by omega)]
          exact ⟨rfl, hbel.trans (hb1.mono (Nat.le_refl _))⟩
      · have q1 : ((s[k].toNat : Int) == 34) = false := by rw [byte_eq s[k] 34 34 rfl]; simpa using hq
        by_cases he : s[k] = 92
        · have q2 : ((s[k].toNat : Int) == 92) = true := by rw [byte_eq s[k] 92 92 rfl]; simpa using he
          by_cases hk1 : k + 1 < s.size
          · have hfin := text_slash hinv hk1 he
            have HF := Lib.hid hfin
            clear hfin he hq
            go_wp2_with (go_at_call 72; refine (idx_esc _ _).mono ?_)
            rintro e w1 ⟨rfl, rfl⟩
            rcases escF_index s[k + 1] with ⟨h1, h2⟩ | ⟨h1, h2⟩ | ⟨h1, h2⟩ | ⟨h1, h2⟩ | ⟨h1, h2⟩
            · rw [h2]
              have HF1 := Lib.hid h1
              clear h1 h2
              go_wp2
              go_ret2
              rw [HF.out, HF1.out]
              exact ⟨rfl, hbel⟩
            all_goals
              rw [h2]
              have HF1 := Lib.hid h1
              clear h1 h2
              go_wp2_with (go_at_call 130; refine (writeByte _ _ _ _ _ hbld hwr hsz).mono ?_; rintro e w1 ⟨rfl, hb1, hb2⟩)
              go_roundw
              case rel =>
                have hfin := HF.out
                rw [HF1.out] at hfin
                exact ⟨k + 2, _, by omega, by go_num, text_wrote hinv (by omega) hfin.symm hb1 hb2⟩
              case measure => simp [intOf]; omega
          · have hfin := text_slash_end hinv hlt he hk1
            have HF := Lib.hid hfin
            have hk2 : (s.size : Int) ≤ k + 1 := by omega
            clear hfin he hq
            go_wp2
            all_goals go_ways
            all_goals go_ret2
            all_goals rw [HF.out]
            all_goals exact ⟨rfl, hbel⟩
        · have q2 : ((s[k].toNat : Int) == 92) = false := by rw [byte_eq s[k] 92 92 rfl]; simpa using he
          by_cases ho : s[k].toNat < 32 ∨ s[k].toNat > 126
          · have hfin := text_odd hinv hlt hq he ho
            have HF := Lib.hid hfin
            clear hfin he hq
            rcases ho with ho | ho
            all_goals
              go_wp2
              go_ret2
              rw [HF.out]
              exact ⟨rfl, hbel⟩
          · have hfin := text_plain hinv hlt hq he ho
            have HF := Lib.hid hfin
            have ho1 : 32 ≤ s[k].toNat := by omega
            have ho2 : s[k].toNat ≤ 126 := by omega
            clear hfin he hq ho
            go_wp2_with (go_at_call 130; refine (writeByte _ _ _ _ _ hbld hwr hsz).mono ?_; rintro e w1 ⟨rfl, hb1, hb2⟩)
            go_roundw
            case rel => exact ⟨k + 1, _, by omega, by go_num, text_wrote hinv (by omega) HF.out hb1 hb2⟩
            case measure => simp [intOf]; omega
    · go_wp2
      go_ret2
      rw [text_end hinv hlt]
      exact ⟨rfl, hbel⟩
end Go.Proofs.YtejpkjcjoengbaaGreatDoor
