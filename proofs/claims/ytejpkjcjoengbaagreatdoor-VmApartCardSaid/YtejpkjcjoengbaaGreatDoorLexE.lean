/-
  lex.next (the token that a text begins with), by walk.
-/
import Derived.Test.YtejpkjcjoengbaaGreatDoorGlob
import Derived.Test.YtejpkjcjoengbaaGreatDoorBase
set_option linter.unusedVariables false
set_option linter.unusedSimpArgs false
namespace Go.Proofs.YtejpkjcjoengbaaGreatDoor
open Go.RowKit

def signAt (l : List UInt8) (j : Nat) : Bool := Lib.hasPrefix l (lexSigns[j]?.getD [])
def signK (l : List UInt8) : Int := match (List.range 25).find? (signAt l) with | some k => k | none => -1
theorem signK_hit (l : List UInt8) (k : Nat) (hk : k < 25) (h : ∀ j, j < k → signAt l j = false) (h1 : signAt l k = true) : signK l = k := by
  have : (List.range 25).find? (signAt l) = some k := by
    rw [List.find?_range_eq_some]
    exact ⟨h1, by simpa using hk, fun j hj => by simp [h j hj]⟩
  simp [signK, this]
theorem signK_none (l : List UInt8) (h : ∀ j, j < 25 → signAt l j = false) : signK l = -1 := by
  have : (List.range 25).find? (signAt l) = none := by
    rw [List.find?_range_eq_none]
    intro j hj
    simp [h j hj]
  simp [signK, this]
theorem signK_range (l : List UInt8) : signK l = -1 ∨ ∃ k : Nat, k < 25 ∧ signK l = k := by
  unfold signK
  cases h : (List.range 25).find? (signAt l) with
  | none => exact .inl rfl
  | some k => exact .inr ⟨k, by have := List.mem_of_find?_eq_some h; simpa using this, rfl⟩

set_option maxHeartbeats 400000 in
theorem next_1 (s sg : ByteArray) (b : Nat) (w : World) (hs : w.cell? ⟨b, 0, none⟩ = some (.string s)) :
    Calls Tryz.prog 108 #[.string sg, .pointer (some ⟨b, 0, none⟩)] w fun e w' => e = .returned (.bool (Lib.hasPrefix s.data.toList sg.data.toList)) ∧ w = w' := by
  go_enter Tryz.func108, Tryz.ntmps108
  go_wp2_with (go_at_call 109; refine (Tryz.strings_HasPrefix _ _ _).mono ?_; rintro e w' ⟨rfl, rfl⟩)
  go_ret
  exact ⟨rfl, rfl⟩

set_option maxHeartbeats 1000000 in
theorem indexFunc_sign (s : ByteArray) (b : Nat) (w : World) (hs : w.cell? ⟨b, 0, none⟩ = some (.string s)) (hg : Glob w) :
    Calls Tryz.prog 107 #[.slice (some ⟨2, 0, none⟩) 25 25, .func (.func 108) #[] #[.pointer (some ⟨b, 0, none⟩)]] w
      fun e w' => e = .returned (.int .i64 (signK s.data.toList)) ∧ w = w' := by
  go_enter Tryz.func107, Tryz.ntmps107
  go_wp2
  go_loop [8] (fun i => ∃ k : Nat, k ≤ 25 ∧ i = .int .i64 k ∧ Hid (∀ j, j < k → signAt s.data.toList j = false)) (fun i => 25 - (intOf i).toNat)
  case atStart => exact ⟨0, by omega, rfl, fun j hj => by omega⟩
  case round =>
    obtain ⟨k, hk, rfl, hall⟩ := hrel
    by_cases hlt : k < 25
    · have hsg := hg.sign k (lexSigns[k]?.getD []) (by have : k < lexSigns.length := hlt; simp [this])
      go_wp2_with (go_at_call 108; refine (next_1 s _ b _ hs).mono ?_; rintro e w' ⟨rfl, rfl⟩)
      · have hp : Lib.hasPrefix s.data.toList (lexSigns[k]?.getD []) = true := by assumption
        go_ret
        exact ⟨ret_int (signK_hit _ k hlt hall.out hp).symm, rfl⟩
      · have hp : Lib.hasPrefix s.data.toList (lexSigns[k]?.getD []) = false := by assumption
        go_round
        case rel =>
          refine ⟨k + 1, by omega, by go_num, fun j hj => ?_⟩
          by_cases e : j = k
          · subst e; exact hp
          · exact hall.out j (by omega)
        case measure => simp [intOf]; omega
    · obtain rfl : k = 25 := by omega
      go_wp2
      go_ret
      exact ⟨ret_int (signK_none _ hall.out).symm, rfl⟩

/-- A token as lex.next makes it: its kind, its text, how many bytes it takes. -/
structure Nx where
  kind : Int
  text : List UInt8
  n : Nat
def wordB (t : List UInt8) : Bool := Lib.containsS lexWords (bs t)
def nextF (l : List UInt8) : Nx :=
  let c : Int := (l.headD 0).toNat
  let t := runF l
  if c = 34 then ⟨3, (textF l).1, (textF l).2⟩
  else if wordB t then ⟨5, t, t.length⟩
  else if letterB c && decide (t.length ≤ 30) then ⟨1, t, t.length⟩
  else if digitB c && numberF t then ⟨2, t, t.length⟩
  else if innerB c then ⟨0, t, 0⟩
  else if signK l < 0 then ⟨0, t, 0⟩
  else ⟨4, lexSigns[(signK l).toNat]?.getD [], (lexSigns[(signK l).toNat]?.getD []).length⟩

def NextPost (s : ByteArray) (w : World) (e : Ending) (w' : World) : Prop :=
  e = .returned (.tuple #[.agg #[.int .i64 (nextF s.data.toList).kind, .string (bs (nextF s.data.toList).text), .int .i64 0], .int .i64 (nextF s.data.toList).n]) ∧ Below w.heap.size w w'

theorem NextPost.mk {s : ByteArray} {w w' : World} {k : Int} {t : List UInt8} {n : Nat} (h : nextF s.data.toList = ⟨k, t, n⟩) (hb : Below w.heap.size w w') :
    NextPost s w (.returned (.tuple #[.agg #[.int .i64 k, .string (bs t), .int .i64 0], .int .i64 n])) w' := by
  unfold NextPost
  rw [h]
  exact ⟨rfl, hb⟩

theorem contains_words (t : List UInt8) (w : World) (hg : Glob w) :
    Calls Tryz.prog 102 #[.slice (some ⟨1, 0, none⟩) 6 6, .string (bs t)] w fun e w' => e = .returned (.bool (wordB t)) ∧ w' = w :=
  Tryz.slices_Contains_string 1 0 6 6 lexWords (bs t) w (by decide) (by decide) (fun j hj => by rw [Nat.zero_add]; exact hg.word j hj)

/-- Two blocks that the call has laid, as they lie later. -/
theorem tok_cells {w w1 : World} {o1 : Value} {a b c : Value} (hb : Below ((w.alloc (.cells #[o1] 9)).alloc (.cells #[a, b, c] 103)).heap.size ((w.alloc (.cells #[o1] 9)).alloc (.cells #[a, b, c] 103)) w1) :
    w1.heap[w.heap.size]? = some (.cells #[o1] 9 (0, 0)) ∧ w1.heap[w.heap.size + 1]? = some (.cells #[a, b, c] 103 (0, 0)) ∧ Below w.heap.size w w1 := by
  refine ⟨?_, ?_, ((Below.refl _ _).alloc (Nat.le_refl _) _ |>.alloc (by simp) _).trans (hb.mono (by simp; omega))⟩
  · rw [hb.block _ (by simp; omega), Lib.alloc_old _ _ _ (by simp)]
    exact heap_alloc_new w _
  · rw [hb.block _ (by simp)]
    have := heap_alloc_new (w.alloc (.cells #[o1] 9)) (.cells #[a, b, c] 103)
    simpa using this

set_option maxHeartbeats 2000000 in
set_option maxRecDepth 100000 in
theorem lex_next_text (s : ByteArray) (w : World) (hs : s.size ≤ 65536) (h0 : 0 < s.size) (hq : s[0] = 34) :
    Calls Tryz.prog 73 #[.string s] w (NextPost s w) := by
  have hm : s.size ≤ maxLen := by unfold maxLen; omega
  have q1 : ((s[0].toNat : Int) == 34) = true := by rw [byte_eq s[0] 34 34 rfl]; simpa using hq
  have hfin : nextF s.data.toList = ⟨3, (textF s.data.toList).1, (textF s.data.toList).2⟩ := by
    unfold nextF
    rw [show s.data.toList.headD 0 = s[0] from by have := drop_at s 0 h0; rw [List.drop_zero] at this; rw [this]; rfl, hq]
    rfl
  have HF := Lib.hid hfin
  clear hfin hq
  go_enter Tryz.func73, Tryz.ntmps73
  go_wp2_with (first | (go_at_call 100; refine (lex_run _ _ hm).mono ?_; rintro e w' ⟨rfl, rfl⟩) | (go_at_call 101; refine (lex_text _ _ hs).mono ?_))
  rintro e w1 ⟨rfl, hb⟩
  obtain ⟨h1, h2, hbb⟩ := tok_cells hb
  have c0 := Lib.cell_of_heap h2 0
  have c1 := Lib.cell_of_heap h2 1
  have c2 := Lib.cell_of_heap h2 2
  have f0 := Lib.frozen_of_heap h2 0
  have f1 := Lib.frozen_of_heap h2 1
  have f2 := Lib.frozen_of_heap h2 2
  simp at c0 c1 c2
  go_wp2
  refine bodyPost_ret (v := .tuple #[.agg #[.int .i64 3, .string (bs (textF s.data.toList).1), .int .i64 0], .int .i64 (textF s.data.toList).2]) (by simp [results, Tryz.results73, go_sem, c0, c1, c2, f0, f1, f2]) rfl ?_
  refine NextPost.mk HF.out ?_
  repeat (first | with_reducible exact hbb | with_reducible refine Below.setCell ?_ (by simp) _)

theorem tok_cellsN {w w1 : World} {o1 : Value} {a b c : Value} {n : Nat} (hb : Below (((w.alloc (.cells #[o1] 9)).alloc (.cells #[a, b, c] 103)).drewN n).heap.size (((w.alloc (.cells #[o1] 9)).alloc (.cells #[a, b, c] 103)).drewN n) w1) :
    w1.heap[w.heap.size]? = some (.cells #[o1] 9 (0, 0)) ∧ w1.heap[w.heap.size + 1]? = some (.cells #[a, b, c] 103 (0, 0)) ∧ Below w.heap.size w w1 :=
  tok_cells ⟨hb.os, hb.tape, hb.output, hb.size, hb.block⟩
theorem pw_below2 (w : World) (o1 o2 : Obj) (n : Nat) : Below w.heap.size w (((w.alloc o1).alloc o2).drewN n) :=
  ⟨rfl, rfl, rfl, by simp; omega, fun k hk => by
    show ((w.alloc o1).alloc o2).heap[k]? = _
    rw [Lib.alloc_old _ _ _ (by simp; omega), Lib.alloc_old _ _ _ hk]⟩
theorem number_bs (t : List UInt8) (w : World) (hs : t.length ≤ 65536) (h0 : 0 < t.length) :
    Calls Tryz.prog 105 #[.string (bs t)] w fun e w' => e = .returned (.bool (numberF t)) ∧ Below w.heap.size w w' :=
  lex_number (bs t) w (by rw [bs_size]; unfold maxLen; omega) (by rw [bs_size]; exact h0)

set_option maxHeartbeats 1000000 in
set_option maxRecDepth 100000 in
theorem lex_next_else (s : ByteArray) (w : World) (hs : s.size ≤ 65536) (h0 : 0 < s.size) (hq : s[0] ≠ 34) (hg : Glob w) :
    Calls Tryz.prog 73 #[.string s] w (NextPost s w) := by
  have hm : s.size ≤ maxLen := by unfold maxLen; omega
  have q1 : ((s[0].toNat : Int) == 34) = false := by rw [byte_eq s[0] 34 34 rfl]; simpa using hq
  have hfin : nextF s.data.toList = if wordB (runF s.data.toList) then ⟨5, runF s.data.toList, (runF s.data.toList).length⟩
    else if letterB s[0].toNat && decide ((runF s.data.toList).length ≤ 30) then ⟨1, runF s.data.toList, (runF s.data.toList).length⟩
    else if digitB s[0].toNat && numberF (runF s.data.toList) then ⟨2, runF s.data.toList, (runF s.data.toList).length⟩
    else if innerB s[0].toNat then ⟨0, runF s.data.toList, 0⟩
    else if signK s.data.toList < 0 then ⟨0, runF s.data.toList, 0⟩
    else ⟨4, lexSigns[(signK s.data.toList).toNat]?.getD [], (lexSigns[(signK s.data.toList).toNat]?.getD []).length⟩ := by
    unfold nextF
    rw [show s.data.toList.headD 0 = s[0] from by have := drop_at s 0 h0; rw [List.drop_zero] at this; rw [this]; rfl]
    simp only
    rw [if_neg (by intro h; apply hq; apply UInt8.toNat_inj.1; rw [show (34 : UInt8).toNat = 34 from rfl]; omega)]
  have hne : digitB s[0].toNat = true → 0 < (runF s.data.toList).length := by
    intro h
    have := drop_at s 0 h0
    rw [List.drop_zero] at this
    rw [this]
    unfold runF
    rw [List.takeWhile_cons_of_pos (by simp [innerU, innerB, h])]
    simp
  have hlt : (runF s.data.toList).length ≤ 65536 := by
    have := (List.takeWhile_sublist innerU (l := s.data.toList)).length_le
    have h2 := size_list s
    unfold runF
    omega
  have hlet : letterB s[0].toNat = true → digitB s[0].toNat = false ∧ innerB s[0].toNat = true := by
    intro h
    refine ⟨?_, by simp [innerB, h]⟩
    simp [letterB, digitB] at *
    omega
  have hdig : digitB s[0].toNat = true → innerB s[0].toNat = true := by
    intro h
    simp [innerB, h]
  have hlen : (bs (runF s.data.toList)).size = (runF s.data.toList).length := bs_size _
  generalize ht : runF s.data.toList = t at *
  have HT := Lib.hid ht
  have HF := Lib.hid hfin
  have HL := Lib.hid hlen
  have b0 : (0 : Int) ≤ s[0].toNat := by omega
  have b1 : (s[0].toNat : Int) ≤ 255 := by have := s[0].toNat_lt; omega
  have HN := Lib.hid hne
  have hgw : ∀ o1 o2 : Obj, ∀ n, Glob (((w.alloc o1).alloc o2).drewN n) := fun o1 o2 n => hg.grown (pw_below2 w o1 o2 n)
  have HG := Lib.hid hgw
  clear hfin hq ht hlen hne hgw
  cases hw : wordB t with
  | true =>
    clear hlet hdig
    go_enter Tryz.func73, Tryz.ntmps73
    go_wp2_with (first | (go_at_call 100; refine (lex_run _ _ hm).mono ?_; rintro e w' ⟨rfl, rfl⟩; rw [HT.out]))
    go_quiet ((go_at_call 102; exact Calls.quiet_of_same (contains_words _ _ (HG.out _ _ _))))
    simp only [hw]
    go_wp2
    refine bodyPost_ret (v := .tuple #[.agg #[.int .i64 5, .string (bs t), .int .i64 0], .int .i64 t.length]) (by simp [results, Tryz.results73, go_sem]) rfl ?_
    refine NextPost.mk (by rw [HF.out]; simp [hw]) ?_
    repeat (first | with_reducible exact pw_below2 _ _ _ _ | with_reducible assumption | with_reducible refine Below.setCell ?_ (by simp) _)
  | false =>
  cases hl : letterB s[0].toNat with
  | true =>
    obtain ⟨hd, hi⟩ := hlet hl
    clear hlet hdig
    by_cases h30 : t.length ≤ 30
    · go_enter Tryz.func73, Tryz.ntmps73
      go_wp2_with (first | (go_at_call 100; refine (lex_run _ _ hm).mono ?_; rintro e w' ⟨rfl, rfl⟩; rw [HT.out]))
      go_quiet ((go_at_call 102; exact Calls.quiet_of_same (contains_words _ _ (HG.out _ _ _))))
      simp only [hw]
      go_wp2_with (first | (go_at_call 103; refine (lex_letter _ _ b0 b1).mono ?_; rintro e w' ⟨rfl, rfl⟩; rw [hl]))
      refine bodyPost_ret (v := .tuple #[.agg #[.int .i64 1, .string (bs t), .int .i64 0], .int .i64 t.length]) (by simp [results, Tryz.results73, go_sem]) rfl ?_
      refine NextPost.mk (by rw [HF.out]; simp [hw, hl, h30]) ?_
      repeat (first | with_reducible exact pw_below2 _ _ _ _ | with_reducible assumption | with_reducible refine Below.setCell ?_ (by simp) _)
    · go_enter Tryz.func73, Tryz.ntmps73
      go_wp2_with (first | (go_at_call 100; refine (lex_run _ _ hm).mono ?_; rintro e w' ⟨rfl, rfl⟩; rw [HT.out]))
      go_quiet ((go_at_call 102; exact Calls.quiet_of_same (contains_words _ _ (HG.out _ _ _))))
      simp only [hw]
      go_wp2_with (first | (go_at_call 103; refine (lex_letter _ _ b0 b1).mono ?_; rintro e w' ⟨rfl, rfl⟩; rw [hl]) | (go_at_call 104; refine (lex_digit _ _ b0 b1).mono ?_; rintro e w' ⟨rfl, rfl⟩; rw [hd]) | (go_at_call 106; refine (lex_inner _ _ b0 b1).mono ?_; rintro e w' ⟨rfl, rfl⟩; rw [hi]))
      refine bodyPost_ret (v := .tuple #[.agg #[.int .i64 0, .string (bs t), .int .i64 0], .int .i64 0]) (by simp [results, Tryz.results73, go_sem]) rfl ?_
      refine NextPost.mk (by rw [HF.out]; simp [hw, hl, hd, hi, h30]) ?_
      repeat (first | with_reducible exact pw_below2 _ _ _ _ | with_reducible assumption | with_reducible refine Below.setCell ?_ (by simp) _)
  | false =>
  cases hd : digitB s[0].toNat with
  | true =>
    have hi := hdig hd
    have h00 := HN.out hd
    clear hlet hdig
    go_enter Tryz.func73, Tryz.ntmps73
    go_wp2_with (first | (go_at_call 100; refine (lex_run _ _ hm).mono ?_; rintro e w' ⟨rfl, rfl⟩; rw [HT.out]))
    go_quiet ((go_at_call 102; exact Calls.quiet_of_same (contains_words _ _ (HG.out _ _ _))))
    simp only [hw]
    go_wp2_with (first | (go_at_call 103; refine (lex_letter _ _ b0 b1).mono ?_; rintro e w' ⟨rfl, rfl⟩; rw [hl]) | (go_at_call 104; refine (lex_digit _ _ b0 b1).mono ?_; rintro e w' ⟨rfl, rfl⟩; rw [hd]) | (go_at_call 105; refine (number_bs _ _ hlt h00).mono ?_))
    rintro e w1 ⟨rfl, hb⟩
    obtain ⟨h1, h2, hbb⟩ := tok_cellsN hb
    have c0 := Lib.cell_of_heap h2 0
    have c1 := Lib.cell_of_heap h2 1
    have c2 := Lib.cell_of_heap h2 2
    have f0 := Lib.frozen_of_heap h2 0
    have f1 := Lib.frozen_of_heap h2 1
    have f2 := Lib.frozen_of_heap h2 2
    simp at c0 c1 c2
    clear hb h1 h2
    have HB := Lib.hid hbb
    clear hbb
    cases hn : numberF t with
    | true =>
      simp only [hn]
      go_wp2
      have hbb := HB.out
      refine bodyPost_ret (v := .tuple #[.agg #[.int .i64 2, .string (bs t), .int .i64 0], .int .i64 t.length]) (by simp [results, Tryz.results73, go_sem, c0, c1, c2, f0, f1, f2]) rfl ?_
      refine NextPost.mk (by rw [HF.out]; simp [hw, hl, hd, hn]) ?_
      repeat (first | with_reducible exact pw_below2 _ _ _ _ | with_reducible assumption | with_reducible refine Below.setCell ?_ (by simp) _)
    | false =>
      simp only [hn]
      go_wp2_with (first | (go_at_call 106; refine (lex_inner _ _ b0 b1).mono ?_; rintro e w' ⟨rfl, rfl⟩; rw [hi]))
      have hbb := HB.out
      refine bodyPost_ret (v := .tuple #[.agg #[.int .i64 0, .string (bs t), .int .i64 0], .int .i64 0]) (by simp [results, Tryz.results73, go_sem, c0, c1, c2, f0, f1, f2]) rfl ?_
      refine NextPost.mk (by rw [HF.out]; simp [hw, hl, hd, hn, hi]) ?_
      repeat (first | with_reducible exact pw_below2 _ _ _ _ | with_reducible assumption | with_reducible refine Below.setCell ?_ (by simp) _)
  | false =>
  clear hlet hdig
  cases hi : innerB s[0].toNat with
  | true =>
    go_enter Tryz.func73, Tryz.ntmps73
    go_wp2_with (first | (go_at_call 100; refine (lex_run _ _ hm).mono ?_; rintro e w' ⟨rfl, rfl⟩; rw [HT.out]))
    go_quiet ((go_at_call 102; exact Calls.quiet_of_same (contains_words _ _ (HG.out _ _ _))))
    simp only [hw]
    go_wp2_with (first | (go_at_call 103; refine (lex_letter _ _ b0 b1).mono ?_; rintro e w' ⟨rfl, rfl⟩; rw [hl]) | (go_at_call 104; refine (lex_digit _ _ b0 b1).mono ?_; rintro e w' ⟨rfl, rfl⟩; rw [hd]) | (go_at_call 106; refine (lex_inner _ _ b0 b1).mono ?_; rintro e w' ⟨rfl, rfl⟩; rw [hi]))
    refine bodyPost_ret (v := .tuple #[.agg #[.int .i64 0, .string (bs t), .int .i64 0], .int .i64 0]) (by simp [results, Tryz.results73, go_sem]) rfl ?_
    refine NextPost.mk (by rw [HF.out]; simp [hw, hl, hd, hi]) ?_
    repeat (first | with_reducible exact pw_below2 _ _ _ _ | with_reducible assumption | with_reducible refine Below.setCell ?_ (by simp) _)
  | false =>
    go_enter Tryz.func73, Tryz.ntmps73
    go_wp2_with (first | (go_at_call 100; refine (lex_run _ _ hm).mono ?_; rintro e w' ⟨rfl, rfl⟩; rw [HT.out]))
    go_quiet ((go_at_call 102; exact Calls.quiet_of_same (contains_words _ _ (HG.out _ _ _))))
    simp only [hw]
    go_wp2_with (first | (go_at_call 103; refine (lex_letter _ _ b0 b1).mono ?_; rintro e w' ⟨rfl, rfl⟩; rw [hl]) | (go_at_call 104; refine (lex_digit _ _ b0 b1).mono ?_; rintro e w' ⟨rfl, rfl⟩; rw [hd]) | (go_at_call 106; refine (lex_inner _ _ b0 b1).mono ?_; rintro e w' ⟨rfl, rfl⟩; rw [hi]) | (go_at_call 107; refine (indexFunc_sign s _ _ (by simp) (HG.out _ _ _)).mono ?_))
    rintro e w1 ⟨rfl, rfl⟩
    rcases signK_range s.data.toList with hk | ⟨k, hk1, hk⟩
    · rw [hk]
      have HK := Lib.hid hk
      clear hk
      go_wp2
      have hk := HK.out
      refine bodyPost_ret (v := .tuple #[.agg #[.int .i64 0, .string (bs t), .int .i64 0], .int .i64 0]) (by simp [results, Tryz.results73, go_sem]) rfl ?_
      refine NextPost.mk (by rw [HF.out]; simp [hw, hl, hd, hi, hk]) ?_
      repeat (first | with_reducible exact pw_below2 _ _ _ _ | with_reducible assumption | with_reducible refine Below.setCell ?_ (by simp) _)
    · rw [hk]
      have HK := Lib.hid hk
      clear hk
      obtain ⟨sg, hsg⟩ : ∃ sg, lexSigns[k]? = some sg := ⟨_, List.getElem?_eq_getElem (by exact hk1)⟩
      have csg := hg.sign k sg hsg
      have hz := hg.size
      rw [gsize] at hz
      have hz2 : 2 < w.heap.size := by omega
      have HS := Lib.hid hsg
      clear hsg
      go_wp2
      go_region
      all_goals go_wp2
      all_goals refine bodyPost_row_tmp (cs := #[.int .i64 4, .string (bs sg), .int .i64 0]) rfl rfl rfl Tryz.underlying103 rfl (by kernel_rfl) ?hg ?_
      case hg => (repeat (first | with_reducible apply set_same | with_reducible apply drewN_heap | with_reducible exact heap_alloc2_new w _ _)); all_goals rfl
      have hk := HK.out
      have hsg := HS.out
      refine NextPost.mk (by rw [HF.out]; simp [hw, hl, hd, hi, hk, hsg]) ?_
      repeat (first | with_reducible exact pw_below2 _ _ _ _ | with_reducible refine Below.setCell ?_ (by simp) _)

theorem lex_next (s : ByteArray) (w : World) (hs : s.size ≤ 65536) (h0 : 0 < s.size) (hg : Glob w) :
    Calls Tryz.prog 73 #[.string s] w (NextPost s w) := by
  by_cases hq : s[0] = 34
  · exact lex_next_text s w hs h0 hq
  · exact lex_next_else s w hs h0 hq hg
end Go.Proofs.YtejpkjcjoengbaaGreatDoor
