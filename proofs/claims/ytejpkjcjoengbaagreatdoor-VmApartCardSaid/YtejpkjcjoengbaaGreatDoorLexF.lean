/-
  lex.Lex (a text's tokens), by walk.
-/
import Derived.Test.YtejpkjcjoengbaaGreatDoorLexE
set_option linter.unusedVariables false
set_option linter.unusedSimpArgs false
namespace Go.Proofs.YtejpkjcjoengbaaGreatDoor
open Go.RowKit

structure Tok where
  kind : Int
  text : List UInt8
  at_ : Nat
def Tok.cells (t : Tok) : List Value := [.int .i64 t.kind, .string (bs t.text), .int .i64 t.at_]
def tokCells (l : List Tok) : List Value := l.flatMap Tok.cells
theorem tokCells_length (l : List Tok) : (tokCells l).length = l.length * 3 := by
  induction l with
  | nil => rfl
  | cons a l ih => simp [tokCells, Tok.cells] at *; omega
theorem tokCells_snoc (l : List Tok) (t : Tok) : tokCells (l ++ [t]) = tokCells l ++ t.cells := by simp [tokCells]

structure LexOut where
  toks : List Tok
  at_ : Nat
  err : Int
def lexGo : Nat → List UInt8 → Nat → List Tok → LexOut
  | 0, _, _, acc => ⟨acc, 0, 0⟩
  | _ + 1, [], _, acc => ⟨acc, 0, 0⟩
  | f + 1, c :: r, i, acc =>
    if c = 35 then
      (if 0 ≤ Lib.indexByte (c :: r) 10 then lexGo f ((c :: r).drop ((Lib.indexByte (c :: r) 10).toNat + 1)) (i + ((Lib.indexByte (c :: r) 10).toNat + 1)) acc else ⟨acc, 0, 0⟩)
    else if c = 32 ∨ c = 9 ∨ c = 10 ∨ c = 13 then lexGo f r (i + 1) acc
    else if (nextF (c :: r)).n = 0 then ⟨[], i, 30⟩
    else lexGo f ((c :: r).drop (nextF (c :: r)).n) (i + (nextF (c :: r)).n) (acc ++ [⟨(nextF (c :: r)).kind, (nextF (c :: r)).text, i⟩])
def lexF (l : List UInt8) : LexOut := if l.length > 65536 then ⟨[], 0, 3⟩ else lexGo (l.length + 1) l 0 []

theorem textGo_n : ∀ (r : List UInt8) (i : Nat) (acc : List UInt8), (textGo r i acc).2 ≤ i + r.length
  | [], _, _ => by simp [textGo]
  | c :: r, i, acc => by
    rw [textGo_cons]
    split
    · split <;> simp <;> omega
    · split
      · match r with
        | [] => simp
        | d :: r' =>
          simp only
          cases h : escF d with
          | none => simp
          | some e =>
            simp only
            have := textGo_n r' (i + 2) (acc ++ [e])
            simp; omega
      · split
        · simp
        · have := textGo_n r (i + 1) (acc ++ [c])
          simp; omega
theorem sign_len (k : Nat) : (lexSigns[k]?.getD []).length ≤ 2 := by
  by_cases h : k < 25
  · have : ∀ j : Fin 25, (lexSigns[j.val]?.getD []).length ≤ 2 := by decide
    exact this ⟨k, h⟩
  · have : lexSigns[k]? = none := List.getElem?_eq_none (by show 25 ≤ k; omega)
    simp [this]
theorem nextF_n (l : List UInt8) : (nextF l).n ≤ l.length + 2 := by
  have hr : (runF l).length ≤ l.length := (List.takeWhile_sublist innerU (l := l)).length_le
  have ht := textGo_n (l.drop 1) 1 []
  have hs := sign_len (signK l).toNat
  unfold nextF
  simp only
  split
  · show (textF l).2 ≤ _
    unfold textF
    rw [List.length_drop] at ht
    omega
  split
  · simp; omega
  split
  · simp; omega
  split
  · simp; omega
  split
  · simp
  split
  · simp
  · simp; omega

theorem indexByte_le (l : List UInt8) (c : UInt8) : Lib.indexByte l c < l.length + 1 := by
  induction l with
  | nil => simp [Lib.indexByte]
  | cons a l ih =>
    unfold Lib.indexByte
    split
    · simp; omega
    · split
      · simp; omega
      · simp; omega
theorem indexByte_ge (l : List UInt8) (c : UInt8) : -1 ≤ Lib.indexByte l c := by
  induction l with
  | nil => simp [Lib.indexByte]
  | cons a l ih =>
    unfold Lib.indexByte
    split
    · omega
    · split
      · omega
      · omega

theorem infoTok : (Tryz.prog.info? 103).map (fun i => (i.zero, i.size, i.bytes)) = some (some (.agg #[.int .i64 0, .string ⟨#[]⟩, .int .i64 0]), 3, 32) := by kernel_rfl

def LexInv (s : ByteArray) (B k : Nat) (v : Value) (acc : List Tok) (w0 w : World) : Prop :=
  (∃ f, s.size - k < f ∧ lexGo f (s.data.toList.drop k) k acc = lexF s.data.toList) ∧ w.ownsRow B 103 3 v acc.length (tokCells acc) ∧ Below B w0 w ∧ acc.length ≤ k ∧ B ≤ w.heap.size ∧ k ≤ s.size + 2
def LexPost (s : ByteArray) (w : World) (e : Ending) (w' : World) : Prop :=
  ∃ v, e = .returned (.tuple #[v, .int .i64 (lexF s.data.toList).at_, .int .i64 (lexF s.data.toList).err]) ∧ w'.ownsRow w.heap.size 103 3 v (lexF s.data.toList).toks.length (tokCells (lexF s.data.toList).toks) ∧ Below w.heap.size w w'

theorem lex_end {s : ByteArray} {B k : Nat} {v : Value} {acc : List Tok} {w0 w : World} (h : LexInv s B k v acc w0 w) (hk : ¬ k < s.size) : lexF s.data.toList = ⟨acc, 0, 0⟩ := by
  obtain ⟨⟨f, hf, h1⟩, _⟩ := h
  rw [List.drop_eq_nil_of_le (by rw [← size_list]; omega)] at h1
  rw [← h1]
  cases f <;> rfl
theorem lex_hash {s : ByteArray} {B k : Nat} {v : Value} {acc : List Tok} {w0 w : World} (h : LexInv s B k v acc w0 w) (hk : k < s.size) (hc : s[k] = 35) (j : Nat) (hj : Lib.indexByte (s.data.toList.drop k) 10 = j) :
    LexInv s B (k + j + 1) v acc w0 w := by
  obtain ⟨⟨f, hf, h1⟩, h2, h3, h4, h5, h6⟩ := h
  have hle := indexByte_le (s.data.toList.drop k) 10
  rw [hj, List.length_drop, ← size_list] at hle
  refine ⟨⟨f - 1, by omega, ?_⟩, h2, h3, by omega, h5, by omega⟩
  obtain ⟨f, rfl⟩ : ∃ g, f = g + 1 := ⟨f - 1, by omega⟩
  rw [drop_at s k hk] at h1 hj
  rw [lexGo, if_pos hc, if_pos (by rw [hj]; omega), hj] at h1
  rw [← h1]
  simp only [Nat.add_sub_cancel, Int.toNat_natCast]
  rw [← drop_at s k hk, List.drop_drop, Nat.add_assoc]
theorem lex_hash_end {s : ByteArray} {B k : Nat} {v : Value} {acc : List Tok} {w0 w : World} (h : LexInv s B k v acc w0 w) (hk : k < s.size) (hc : s[k] = 35) (hj : Lib.indexByte (s.data.toList.drop k) 10 < 0) :
    lexF s.data.toList = ⟨acc, 0, 0⟩ := by
  obtain ⟨⟨f, hf, h1⟩, _⟩ := h
  obtain ⟨f, rfl⟩ : ∃ g, f = g + 1 := ⟨f - 1, by omega⟩
  rw [drop_at s k hk] at h1 hj
  rw [lexGo, if_pos hc, if_neg (by omega)] at h1
  exact h1.symm
theorem lex_space {s : ByteArray} {B k : Nat} {v : Value} {acc : List Tok} {w0 w : World} (h : LexInv s B k v acc w0 w) (hk : k < s.size) (hc : s[k] ≠ 35) (hs : s[k] = 32 ∨ s[k] = 9 ∨ s[k] = 10 ∨ s[k] = 13) :
    LexInv s B (k + 1) v acc w0 w := by
  obtain ⟨⟨f, hf, h1⟩, h2, h3, h4, h5, h6⟩ := h
  refine ⟨⟨f - 1, by omega, ?_⟩, h2, h3, by omega, h5, by omega⟩
  obtain ⟨f, rfl⟩ : ∃ g, f = g + 1 := ⟨f - 1, by omega⟩
  rw [drop_at s k hk] at h1
  rw [lexGo, if_neg hc, if_pos hs] at h1
  exact h1
theorem lex_bad {s : ByteArray} {B k : Nat} {v : Value} {acc : List Tok} {w0 w : World} (h : LexInv s B k v acc w0 w) (hk : k < s.size) (hc : s[k] ≠ 35) (hs : ¬ (s[k] = 32 ∨ s[k] = 9 ∨ s[k] = 10 ∨ s[k] = 13))
    (hn : (nextF (s.data.toList.drop k)).n = 0) : lexF s.data.toList = ⟨[], k, 30⟩ := by
  obtain ⟨⟨f, hf, h1⟩, _⟩ := h
  obtain ⟨f, rfl⟩ : ∃ g, f = g + 1 := ⟨f - 1, by omega⟩
  rw [drop_at s k hk] at h1 hn
  rw [lexGo, if_neg hc, if_neg hs, if_pos hn] at h1
  exact h1.symm
theorem lex_tok {s : ByteArray} {B k : Nat} {v v' : Value} {acc : List Tok} {w0 w w1 : World} (h : LexInv s B k v acc w0 w) (hk : k < s.size) (hc : s[k] ≠ 35) (hs : ¬ (s[k] = 32 ∨ s[k] = 9 ∨ s[k] = 10 ∨ s[k] = 13))
    (hn : (nextF (s.data.toList.drop k)).n ≠ 0)
    (ho : w1.ownsRow B 103 3 v' (acc.length + 1) (tokCells acc ++ (Tok.mk (nextF (s.data.toList.drop k)).kind (nextF (s.data.toList.drop k)).text k).cells)) (hb : Below B w0 w1) (hB : B ≤ w1.heap.size) :
    LexInv s B (k + (nextF (s.data.toList.drop k)).n) v' (acc ++ [⟨(nextF (s.data.toList.drop k)).kind, (nextF (s.data.toList.drop k)).text, k⟩]) w0 w1 := by
  obtain ⟨⟨f, hf, h1⟩, h2, h3, h4, h5, h6⟩ := h
  have hle := nextF_n (s.data.toList.drop k)
  rw [List.length_drop, ← size_list] at hle
  refine ⟨⟨f - 1, by omega, ?_⟩, ?_, hb, by simp; omega, hB, by omega⟩
  · obtain ⟨f, rfl⟩ : ∃ g, f = g + 1 := ⟨f - 1, by omega⟩
    rw [drop_at s k hk] at h1 hn ⊢
    rw [lexGo, if_neg hc, if_neg hs, if_neg hn] at h1
    rw [← h1]
    simp only [Nat.add_sub_cancel]
    rw [← drop_at s k hk, List.drop_drop]
  · rw [List.length_append, List.length_singleton, tokCells_snoc]; exact ho

theorem next_drop (s : ByteArray) (k : Nat) (w : World) (hs : s.size ≤ 65536) (hk : k < s.size) (hg : Glob w) :
    Calls Tryz.prog 73 #[.string (s.extract k s.size)] w fun e w' =>
      e = .returned (.tuple #[.agg #[.int .i64 (nextF (s.data.toList.drop k)).kind, .string (bs (nextF (s.data.toList.drop k)).text), .int .i64 0], .int .i64 (nextF (s.data.toList.drop k)).n]) ∧ Below w.heap.size w w' := by
  have hsz : (s.extract k s.size).size = s.size - k := by simp [ByteArray.size_extract]
  have := lex_next (s.extract k s.size) w (by rw [hsz]; omega) (by rw [hsz]; omega) hg
  unfold NextPost at this
  rw [Lib.extract_to_end] at this
  exact this
theorem index_drop (s : ByteArray) (k : Nat) (w : World) : Calls Tryz.prog 72 #[.string (s.extract k s.size), .int .u8 10] w fun e w' => e = .returned (.int .i64 (Lib.indexByte (s.data.toList.drop k) 10)) ∧ w = w' := by
  refine (Tryz.strings_IndexByte _ _ w).mono ?_
  rintro e w' ⟨rfl, rfl⟩
  rw [Lib.extract_to_end]
  exact ⟨rfl, rfl⟩

set_option maxHeartbeats 1000000 in
set_option maxRecDepth 100000 in
theorem lex_Lex (s : ByteArray) (w : World) (hs : s.size ≤ maxLen) (hg : Glob w) :
    Calls Tryz.prog 30 #[.string s] w (LexPost s w) := by
  unfold maxLen at hs
  by_cases hbig : 65536 < s.size
  · have hfin : lexF s.data.toList = ⟨[], 0, 3⟩ := by unfold lexF; rw [if_pos (by rw [← size_list]; exact hbig)]
    have HF := Lib.hid hfin
    clear hfin
    go_enter Tryz.func30, Tryz.ntmps30
    go_wp2
    go_step3
    go_wp2
    rw [Exit.noGoto_ret]
    go_ret3
    exact ⟨_, by rw [HF.out]; rfl, by rw [HF.out]; exact World.ownsRow_nil _ _ _ _, Below.refl _ _⟩
  · have hsm : s.size ≤ 65536 := by omega
    have hz := hg.size
    rw [gsize] at hz
    obtain ⟨i0, hi, hz0, hz1, hz2⟩ := info_parts infoTok
    go_enter Tryz.func30, Tryz.ntmps30
    go_wp2
    go_step3
    go_wp2
    go_step3
    go_wp2
    go_loopw [2, 5] (fun v i wr => ∃ (k : Nat) (acc : List Tok), i = .int .i64 k ∧ LexInv s w.heap.size k v acc w wr) (fun v i wr => s.size - (intOf i).toNat)
    case atStart => exact ⟨0, [], rfl, ⟨s.size + 1, by omega, by unfold lexF; rw [if_neg (by rw [← size_list]; omega)]; rfl⟩, World.ownsRow_nil _ _ _ _, Below.refl _ _, by simp, Nat.le_refl _, by omega⟩
    case round =>
      obtain ⟨k, acc, rfl, hinv⟩ := hrel
      have hbel := hinv.2.2.1
      have hown := hinv.2.1
      have hB := hinv.2.2.2.2.1
      have hacc := hinv.2.2.2.1
      have hg1 := hg.grown hbel
      by_cases hlt : k < s.size
      · by_cases hc : s[k] = 35
        · have q1 : ((s[k].toNat : Int) == 35) = true := by rw [byte_eq s[k] 35 35 rfl]; simpa using hc
          go_wp2_with (go_at_call 72; refine (index_drop s k _).mono ?_)
          rintro e w1 ⟨rfl, rfl⟩
          rcases Int.lt_or_le (Lib.indexByte (s.data.toList.drop k) 10) 0 with hj | hj
          · have hfin := lex_hash_end hinv hlt hc hj
            have HF := Lib.hid hfin
            clear hfin hc
            go_wp2
            rw [Exit.noGoto_ret]
            go_ret3
            exact ⟨_, by rw [HF.out]; rfl, by rw [HF.out]; exact hown, hbel⟩
          · obtain ⟨j, hj2⟩ := Int.eq_ofNat_of_zero_le hj
            have hfin := lex_hash hinv hlt hc j hj2
            have HF := Lib.hid hfin
            have hle := indexByte_le (s.data.toList.drop k) 10
            rw [hj2, List.length_drop, ← size_list] at hle
            rw [hj2]
            clear hfin hc hj hj2
            go_wp2
            go_roundw
            case rel => exact ⟨k + j + 1, acc, by go_num, HF.out⟩
            case measure => simp [intOf]; omega
        · have q1 : ((s[k].toNat : Int) == 35) = false := by rw [byte_eq s[k] 35 35 rfl]; simpa using hc
          by_cases hsp : s[k] = 32 ∨ s[k] = 9 ∨ s[k] = 10 ∨ s[k] = 13
          · have hfin := lex_space hinv hlt hc hsp
            have HF := Lib.hid hfin
            clear hfin
            rcases hsp with h | h | h | h
            · have q2 : ((s[k].toNat : Int) == 32) = true := by rw [byte_eq s[k] 32 32 rfl]; simpa using h
              clear h hc
              go_wp2
              go_roundw
              case rel => exact ⟨k + 1, acc, by go_num, HF.out⟩
              case measure => simp [intOf]; omega
            · have q2 : ((s[k].toNat : Int) == 32) = false := by rw [byte_eq s[k] 32 32 rfl, h]; rfl
              have q3 : ((s[k].toNat : Int) == 9) = true := by rw [byte_eq s[k] 9 9 rfl]; simpa using h
              clear h hc
              go_wp2
              go_roundw
              case rel => exact ⟨k + 1, acc, by go_num, HF.out⟩
              case measure => simp [intOf]; omega
            · have q2 : ((s[k].toNat : Int) == 32) = false := by rw [byte_eq s[k] 32 32 rfl, h]; rfl
              have q3 : ((s[k].toNat : Int) == 9) = false := by rw [byte_eq s[k] 9 9 rfl, h]; rfl
              have q4 : ((s[k].toNat : Int) == 10) = true := by rw [byte_eq s[k] 10 10 rfl]; simpa using h
              clear h hc
              go_wp2
              go_roundw
              case rel => exact ⟨k + 1, acc, by go_num, HF.out⟩
              case measure => simp [intOf]; omega
            · have q2 : ((s[k].toNat : Int) == 32) = false := by rw [byte_eq s[k] 32 32 rfl, h]; rfl
              have q3 : ((s[k].toNat : Int) == 9) = false := by rw [byte_eq s[k] 9 9 rfl, h]; rfl
              have q4 : ((s[k].toNat : Int) == 10) = false := by rw [byte_eq s[k] 10 10 rfl, h]; rfl
              have q5 : ((s[k].toNat : Int) == 13) = true := by rw [byte_eq s[k] 13 13 rfl]; simpa using h
              clear h hc
              go_wp2
              go_roundw
              case rel => exact ⟨k + 1, acc, by go_num, HF.out⟩
              case measure => simp [intOf]; omega
          · have hsp' := hsp
            rw [not_or, not_or, not_or] at hsp'
            obtain ⟨h1, h2, h3, h4⟩ := hsp'
            have q2 : ((s[k].toNat : Int) == 32) = false := by rw [byte_eq s[k] 32 32 rfl]; simpa using h1
            have q3 : ((s[k].toNat : Int) == 9) = false := by rw [byte_eq s[k] 9 9 rfl]; simpa using h2
            have q4 : ((s[k].toNat : Int) == 10) = false := by rw [byte_eq s[k] 10 10 rfl]; simpa using h3
            have q5 : ((s[k].toNat : Int) == 13) = false := by rw [byte_eq s[k] 13 13 rfl]; simpa using h4
            clear h1 h2 h3 h4
            have HC := Lib.hid hc
            have HSP := Lib.hid hsp
            clear hc hsp
            go_wp2_with (go_at_call 73; refine (next_drop s k _ hsm hlt hg1).mono ?_)
            rintro e w1 ⟨rfl, hb⟩
            generalize hx : nextF (s.data.toList.drop k) = x at *
            have hle := nextF_n (s.data.toList.drop k)
            rw [hx, List.length_drop, ← size_list] at hle
            have HX := Lib.hid hx
            clear hx
            by_cases hn : x.n = 0
            · have hfin := lex_bad hinv hlt HC.out HSP.out (by rw [HX.out]; exact hn)
              have HF := Lib.hid hfin
              have hn' : ((x.n : Int) == 0) = true := by simp [hn]
              clear hfin hn
              go_wp2
              rw [Exit.noGoto_ret]
              go_ret3
              exact ⟨_, by rw [HF.out]; rfl, by rw [HF.out]; exact World.ownsRow_nil _ _ _ _, (hbel.trans (hb.mono hB)).alloc (Nat.le_trans hB hb.size) _⟩
            · have hn' : ((x.n : Int) == 0) = false := by simp [hn]
              obtain ⟨A, cp, rfl⟩ := own_slice hown
              go_wp2_with (at_builtin; refine wpList_append_own _ rfl _ _ 97 rfl w.heap.size 103 i0 (.agg #[.int .i64 0, .string ⟨#[]⟩, .int .i64 0]) 3 32 Tryz.underlying97 hi hz0 hz1 hz2 rfl (by decide) (.slice A acc.length cp) acc.length (tokCells acc) rfl ?hown ⟨w1.heap.size + 1, 0, none⟩ 1 1 [.int .i64 x.kind, .string (bs x.text), .int .i64 k] rfl rfl ?c1 ?c2 ?c3 ?c4 ?c5 ?_)
              case hown => exact own_below hown (below_then hb (hb.size) ((Below.refl _ _).alloc (Nat.le_refl _) _ |>.alloc (by simp) _))
              case c1 => exact fun j u hu => new_cells2 j u hu
              case c2 => intro u hu; simp at hu; rcases hu with rfl | rfl | rfl <;> rfl
              case c3 => unfold maxLen; omega
              case c4 => omega
              case c5 => have := hb.size; simp; omega
              intro v' w2 hown' hgrow _
              have hB1 : w.heap.size ≤ w1.heap.size := Nat.le_trans hB hb.size
              have hbel2 : Below w.heap.size w w2 := (((hbel.trans (hb.mono hB)).alloc hB1 _).alloc (by simp; omega) _).grown hgrow (by simp; omega) (fun k hk => (hown.lt k hk).1)
              have hfin := lex_tok (v' := v') (w1 := w2) hinv hlt HC.out HSP.out (by rw [HX.out]; exact hn) (by rw [HX.out]; exact hown') hbel2 (by have := hgrow.size; simp at this; omega)
              rw [HX.out] at hfin
              have HF := Lib.hid hfin
              have hB2 : w.heap.size ≤ w2.heap.size := hbel2.size
              clear hfin hown' hgrow
              go_wp2
              go_roundw
              case rel => exact ⟨k + x.n, _, by go_num, HF.out⟩
              case measure => simp [intOf]; omega
      · have hfin := lex_end hinv hlt
        have HF := Lib.hid hfin
        clear hfin
        go_wp2
        rw [Exit.noGoto_ret]
        go_ret3
        exact ⟨_, by rw [HF.out]; rfl, by rw [HF.out]; exact hown, hbel⟩
end Go.Proofs.YtejpkjcjoengbaaGreatDoor
