/-
  vm.one: a line is read, by walk (push lines: of one text that needs no mark).
-/
import Derived.Test.YtejpkjcjoengbaaGreatDoorVmL
import Derived.Test.YtejpkjcjoengbaaGreatDoorShow
set_option linter.unusedVariables false
set_option linter.unusedSimpArgs false
namespace Go.Proofs.YtejpkjcjoengbaaGreatDoor
open Go.RowKit

structure Ln where
  word : List UInt8
  text : List UInt8
def wPush : List UInt8 := [112, 117, 115, 104]
def wLabel : List UInt8 := [108, 97, 98, 101, 108]
def wJump : List UInt8 := [106, 117, 109, 112]
def wIf : List UInt8 := [105, 102]
def quotedB (x : List UInt8) : Bool := plainB x && (nextF (quoted x)).kind == 3 && (nextF (quoted x)).text == x && (nextF (quoted x)).n == x.length + 2
theorem quotedB_next {x : List UInt8} (h : quotedB x = true) : plainB x = true ∧ nextF (quoted x) = ⟨3, x, x.length + 2⟩ := by
  simp [quotedB] at h
  obtain ⟨⟨⟨h1, h2⟩, h3⟩, h4⟩ := h
  refine ⟨h1, ?_⟩
  cases hn : nextF (quoted x) with
  | mk a b c => rw [hn] at h2 h3 h4; simp at h2 h3 h4; simp [h2, h3, h4]
def restF (l : List UInt8) : List UInt8 := Lib.trimLeftB (Lib.cut (Lib.trimB l 32) [32]).2.1 32
def wordF (l : List UInt8) : List UInt8 := (Lib.cut (Lib.trimB l 32) [32]).1
def oneF (l : List UInt8) : Option (Ln × Bool) :=
  if wordF l = [] ∨ (wordF l).head? = some 35 then some (⟨[], []⟩, true)
  else if wordF l = wPush then
    (match (lexF (restF l)).toks with
    | [t] => if t.kind = 3 ∧ quotedB t.text = true ∧ quoted t.text = restF l then some (⟨wPush, t.text⟩, true) else none
    | _ => none)
  else if wordF l = wLabel ∨ wordF l = wJump ∨ wordF l = wIf then some (⟨wordF l, restF l⟩, labelB (restF l))
  else match opF (wordF l) with
    | some f => some (⟨wordF l, []⟩, (restF l).isEmpty)
    | none => none

theorem trim32 (l : List UInt8) (hl : l.length ≤ 1000000) {w : World} : Calls Tryz.prog 27 #[.string (bs l), .string ⟨#[32]⟩] w fun e w' => e = .returned (.string (bs (Lib.trimB l 32))) ∧ Below w.heap.size w w' := by
  refine (Tryz.strings_Trim_one (bs l) 32 (by decide) w (by rw [bs_size]; omega)).mono ?_
  rintro e w' ⟨rfl, h⟩
  have : (bs l).data.toList = l := by simp [bs]
  rw [this]
  refine ⟨rfl, ?_⟩
  rcases h with rfl | rfl
  · exact Below.refl _ _
  · exact (Below.refl _ _).drew
theorem cut32 (l : List UInt8) (hl : l.length ≤ 1000000) {w : World} (hg : Glob w) : Calls Tryz.prog 28 #[.string (bs l), .string ⟨#[32]⟩] w fun e w' => e = .returned (.tuple #[.string (bs (Lib.cut l [32]).1), .string (bs (Lib.cut l [32]).2.1), .bool (Lib.cut l [32]).2.2]) ∧ Below w.heap.size w w' := by
  obtain ⟨m, hm⟩ := hg.maxl
  refine (Tryz.strings_Cut (bs l) ⟨#[32]⟩ m w (by rw [bs_size]; omega) hm).mono ?_
  rintro e w' ⟨rfl, n, rfl⟩
  have : (bs l).data.toList = l := by simp [bs]
  rw [this]
  exact ⟨rfl, ⟨rfl, rfl, rfl, Nat.le_refl _, fun k hk => rfl⟩⟩
theorem trimLeft32 (l : List UInt8) {w : World} : Calls Tryz.prog 29 #[.string (bs l), .string ⟨#[32]⟩] w fun e w' => e = .returned (.string (bs (Lib.trimLeftB l 32))) ∧ w = w' := by
  refine (Tryz.strings_TrimLeft_one (bs l) 32 (by decide) w).mono ?_
  rintro e w' ⟨rfl, rfl⟩
  have : (bs l).data.toList = l := by simp [bs]
  rw [this]
  exact ⟨rfl, rfl⟩
theorem trimLeftB_len (l : List UInt8) (c : UInt8) : (Lib.trimLeftB l c).length ≤ l.length := (List.dropWhile_sublist _).length_le
theorem trimB_len (l : List UInt8) (c : UInt8) : (Lib.trimB l c).length ≤ l.length := by
  have h1 := trimLeftB_len (Lib.trimRightB l c) c
  have h2 : (Lib.trimRightB l c).length ≤ l.length := by
    unfold Lib.trimRightB
    have := (List.dropWhile_sublist (l := l.reverse) (· == c)).length_le
    simpa using this
  unfold Lib.trimB
  omega
theorem cut_len (l : List UInt8) : (Lib.cut l [32]).1.length ≤ l.length ∧ (Lib.cut l [32]).2.1.length ≤ l.length := by
  unfold Lib.cut
  split
  · simp; omega
  · simp

def OnePost (r : Ln) (b : Bool) (w : World) (e : Ending) (w' : World) : Prop :=
  e = .returned (.tuple #[.agg #[.int .i64 0, .string (bs r.word), .string (bs r.text)], .bool b]) ∧ Below w.heap.size w w'

set_option maxHeartbeats 1000000 in
set_option maxRecDepth 100000 in
theorem vm_one (l : List UInt8) (hl : l.length ≤ 60000) (r : Ln) (b : Bool) (h : oneF l = some (r, b)) {w : World} (hg : Glob w) :
    Calls Tryz.prog 18 #[.string (bs l)] w (OnePost r b w) := by
  have ht := trimB_len l 32
  have hc := cut_len (Lib.trimB l 32)
  have hb0 : Below w.heap.size w (w.alloc (.cells #[.int .i64 0, .string ⟨#[]⟩, .string ⟨#[]⟩] 71)) := (Below.refl _ _).alloc (Nat.le_refl _) _
  go_enter Tryz.func18, Tryz.ntmps18
  go_wp2_with (go_at_call 27; refine (trim32 l (by omega)).mono ?_)
  rintro e w1 ⟨rfl, hb1⟩
  have hg1 := hg.grown (hb0.trans (hb1.mono (by simp)))
  go_wp2_with (go_at_call 28; refine (cut32 (Lib.trimB l 32) (by omega) hg1).mono ?_)
  rintro e w2 ⟨rfl, hb2⟩
  go_wp2_with (go_at_call 29; refine (trimLeft32 _).mono ?_)
  rintro e w3 ⟨rfl, rfl⟩
  have hb3 : Below w.heap.size w w2 := (hb0.trans (hb1.mono (by simp))).trans (hb2.mono (Nat.le_trans (by simp) hb1.size))
  have hN : w2.heap[w.heap.size]? = some (.cells #[.int .i64 0, .string ⟨#[]⟩, .string ⟨#[]⟩] 71 (0, 0)) := by
    have h1 : w.heap.size < (w.alloc (.cells #[.int .i64 0, .string ⟨#[]⟩, .string ⟨#[]⟩] 71)).heap.size := by simp
    rw [hb2.block _ (Nat.lt_of_lt_of_le h1 hb1.size), hb1.block _ h1]; exact heap_alloc_new w _
  have hg2 := hg.grown hb3
  have hrl : (restF l).length ≤ 60000 := by
    have := trimLeftB_len (Lib.cut (Lib.trimB l 32) [32]).2.1 32
    show (Lib.trimLeftB (Lib.cut (Lib.trimB l 32) [32]).2.1 32).length ≤ 60000
    omega
  have hwl : (wordF l).length ≤ 60000 := by show (Lib.cut (Lib.trimB l 32) [32]).1.length ≤ 60000; omega
  unfold oneF at h
  generalize hW : wordF l = wd at h hwl
  generalize hR : restF l = rs at h hrl
  unfold wordF at hW
  unfold restF at hR
  rw [hW, hR]
  have n0 := Lib.cell_of_heap hN 0
  have n1 := Lib.cell_of_heap hN 1
  have n2 := Lib.cell_of_heap hN 2
  have fz0 := Lib.frozen_of_heap hN 0
  have fz1 := Lib.frozen_of_heap hN 1
  have fz2 := Lib.frozen_of_heap hN 2
  simp at n0 n1 n2
  clear hb0 hb1 hb2 hg1 ht hc hW hR hl
  by_cases hA : wd = [] ∨ wd.head? = some 35
  · rw [if_pos hA] at h
    injection h with h
    injection h with h1 h2
    subst h1 h2
    cases wd with
    | nil =>
      have hbs : bs [] = ⟨#[]⟩ := rfl
      go_wp2
      refine bodyPost_row_tmp (cs := #[.int .i64 0, .string ⟨#[]⟩, .string ⟨#[]⟩]) rfl rfl rfl Tryz.underlying71 rfl (by kernel_rfl) (set_same (set_same (set_same hN rfl) rfl) rfl) ?_
      exact ⟨rfl, ((hb3.setCell (Nat.le_refl _) _).setCell (Nat.le_refl _) _).setCell (Nat.le_refl _) _⟩
    | cons d t =>
      have hd : d = 35 := by simpa using hA
      have h0 : 0 < (bs (d :: t)).size := by rw [bs_size]; simp
      have q : (((bs (d :: t))[0].toNat : Int) == 35) = true := by rw [byte_eq _ 35 35 rfl]; simp [bs, hd]; rfl
      go_wp2
      refine bodyPost_row_tmp (cs := #[.int .i64 0, .string ⟨#[]⟩, .string ⟨#[]⟩]) rfl rfl rfl Tryz.underlying71 rfl (by kernel_rfl) (set_same (set_same (set_same hN rfl) rfl) rfl) ?_
      exact ⟨rfl, ((hb3.setCell (Nat.le_refl _) _).setCell (Nat.le_refl _) _).setCell (Nat.le_refl _) _⟩
  · rw [if_neg hA] at h
    cases wd with
    | nil => exact absurd (.inl rfl) hA
    | cons d t =>
    have hd : ¬ d = 35 := fun e => hA (.inr (by simp [e]))
    have h0 : 0 < (bs (d :: t)).size := by rw [bs_size]; simp
    have q : (((bs (d :: t))[0].toNat : Int) == 35) = false := by
      rw [byte_eq _ 35 35 rfl]
      have : (bs (d :: t))[0] = d := by simp [bs]; rfl
      rw [this]; simp [hd]
    have hnn : ((d :: t) == ([] : List UInt8)) = false := rfl
    generalize hdt : d :: t = wd at *
    by_cases hP : wd = wPush
    · rw [if_pos hP] at h
      subst hP
      clear hdt hnn
      have hbw : bs wPush = ⟨#[112, 117, 115, 104]⟩ := rfl
      rw [hbw] at *
      have hdl : (bs rs).data.toList = rs := by simp [bs]
      obtain ⟨t, htk, ht3, htq, htr, rfl, rfl⟩ : ∃ t : Tok, (lexF rs).toks = [t] ∧ t.kind = 3 ∧ quotedB t.text = true ∧ quoted t.text = rs ∧ (⟨wPush, t.text⟩ : Ln) = r ∧ true = b := by
        revert h
        split
        · rename_i t ht
          split
          · rename_i hc
            intro h
            injection h with h
            injection h with h1 h2
            exact ⟨t, ht, hc.1, hc.2.1, hc.2.2, h1, h2⟩
          · intro h; cases h
        · intro h; cases h
      clear h
      obtain ⟨hpl, hnx⟩ := quotedB_next htq
      have hLex := lex_Lex (bs rs) w2 (by rw [bs_size]; unfold maxLen; omega) hg2
      unfold LexPost at hLex
      rw [hdl, htk] at hLex
      go_wp2_with (go_at_call 30; refine hLex.mono ?_)
      rintro e w4 ⟨v, rfl, hown, hbx⟩
      obtain ⟨g, c, rfl⟩ : ∃ g c, v = .slice (some ⟨g, 0, none⟩) 1 c := by
        rcases hown.2 with ⟨_, h0⟩ | ⟨g, cap, cur, hv, _⟩
        · simp [tokCells, Tok.cells] at h0
        · exact ⟨g, cap, hv⟩
      have hcl : ∀ (j : Nat) u, [Value.int .i64 3, .string (bs t.text), .int .i64 t.at_][j]? = some u → w4.cell? ⟨g, j, none⟩ = some u := fun j u hu => by
        have := hown.cells (g := g) rfl j u (by simpa [tokCells, Tok.cells, ht3] using hu)
        rw [add_plain] at this
        exact this
      have hgl := (hown.lt g rfl).2
      have hSh := show_text g c t.text t.at_ (hg2.grown hbx) hcl hpl hnx
      rw [htr] at hSh
      have hcx := Lib.hid hcl
      clear hcl hown hLex
      go_wp2_with (go_at_call 31; refine hSh.mono ?_)
      rintro e w5 ⟨rfl, hby⟩
      have hbm := hbx.trans (hby.mono hbx.size)
      have hN2 := (hbm.block _ (Array.getElem?_eq_some_iff.1 hN).1).trans hN
      have m0 := Lib.cell_of_heap hN2 0
      have m1 := Lib.cell_of_heap hN2 1
      have m2 := Lib.cell_of_heap hN2 2
      have mz0 := Lib.frozen_of_heap hN2 0
      have mz1 := Lib.frozen_of_heap hN2 1
      have mz2 := Lib.frozen_of_heap hN2 2
      have y0 := (hby.cell (p := ⟨g, 0, none⟩) hgl).trans (hcx.out 0 _ rfl)
      have y1 := (hby.cell (p := ⟨g, 1, none⟩) hgl).trans (hcx.out 1 _ rfl)
      simp at m0 m1 m2
      have hb5 := hb3.trans (hbm.mono hb3.size)
      go_wp2
      refine bodyPost_row_tmp (cs := #[.int .i64 0, .string (bs wPush), .string (bs t.text)]) rfl rfl rfl Tryz.underlying71 rfl (by kernel_rfl) (set_same (set_same (set_same hN2 rfl) rfl) rfl) ?_
      exact ⟨rfl, ((hb5.setCell (Nat.le_refl _) _).setCell (Nat.le_refl _) _).setCell (Nat.le_refl _) _⟩
    · rw [if_neg hP] at h
      by_cases hL : wd = wLabel ∨ wd = wJump ∨ wd = wIf
      · rw [if_pos hL] at h
        injection h with h
        injection h with h1 h2
        subst h1 h2
        have hlab := vm_isLabel rs (by omega) (w := w2)
        rcases hL with rfl | rfl | rfl
        · have hbw : bs wLabel = ⟨#[108, 97, 98, 101, 108]⟩ := rfl
          clear hdt hnn
          rw [hbw] at *
          go_wp2_with (go_at_call 32; refine hlab.mono ?_)
          rintro e w5 ⟨rfl, hbm⟩
          have hN2 := (hbm.block _ (Array.getElem?_eq_some_iff.1 hN).1).trans hN
          have m0 := Lib.cell_of_heap hN2 0
          have m1 := Lib.cell_of_heap hN2 1
          have m2 := Lib.cell_of_heap hN2 2
          have mz0 := Lib.frozen_of_heap hN2 0
          have mz1 := Lib.frozen_of_heap hN2 1
          have mz2 := Lib.frozen_of_heap hN2 2
          simp at m0 m1 m2
          have hb5 := hb3.trans (hbm.mono hb3.size)
          go_wp2
          refine bodyPost_row_tmp (cs := #[.int .i64 0, .string (bs wLabel), .string (bs rs)]) rfl rfl rfl Tryz.underlying71 rfl (by kernel_rfl) (set_same (set_same (set_same hN2 rfl) rfl) rfl) ?_
          exact ⟨rfl, ((hb5.setCell (Nat.le_refl _) _).setCell (Nat.le_refl _) _).setCell (Nat.le_refl _) _⟩
        · have hbw : bs wJump = ⟨#[106, 117, 109, 112]⟩ := rfl
          clear hdt hnn
          rw [hbw] at *
          go_wp2_with (go_at_call 32; refine hlab.mono ?_)
          rintro e w5 ⟨rfl, hbm⟩
          have hN2 := (hbm.block _ (Array.getElem?_eq_some_iff.1 hN).1).trans hN
          have m0 := Lib.cell_of_heap hN2 0
          have m1 := Lib.cell_of_heap hN2 1
          have m2 := Lib.cell_of_heap hN2 2
          have mz0 := Lib.frozen_of_heap hN2 0
          have mz1 := Lib.frozen_of_heap hN2 1
          have mz2 := Lib.frozen_of_heap hN2 2
          simp at m0 m1 m2
          have hb5 := hb3.trans (hbm.mono hb3.size)
          go_wp2
          refine bodyPost_row_tmp (cs := #[.int .i64 0, .string (bs wJump), .string (bs rs)]) rfl rfl rfl Tryz.underlying71 rfl (by kernel_rfl) (set_same (set_same (set_same hN2 rfl) rfl) rfl) ?_
          exact ⟨rfl, ((hb5.setCell (Nat.le_refl _) _).setCell (Nat.le_refl _) _).setCell (Nat.le_refl _) _⟩
        · have hbw : bs wIf = ⟨#[105, 102]⟩ := rfl
          clear hdt hnn
          rw [hbw] at *
          go_wp2_with (go_at_call 32; refine hlab.mono ?_)
          rintro e w5 ⟨rfl, hbm⟩
          have hN2 := (hbm.block _ (Array.getElem?_eq_some_iff.1 hN).1).trans hN
          have m0 := Lib.cell_of_heap hN2 0
          have m1 := Lib.cell_of_heap hN2 1
          have m2 := Lib.cell_of_heap hN2 2
          have mz0 := Lib.frozen_of_heap hN2 0
          have mz1 := Lib.frozen_of_heap hN2 1
          have mz2 := Lib.frozen_of_heap hN2 2
          simp at m0 m1 m2
          have hb5 := hb3.trans (hbm.mono hb3.size)
          go_wp2
          refine bodyPost_row_tmp (cs := #[.int .i64 0, .string (bs wIf), .string (bs rs)]) rfl rfl rfl Tryz.underlying71 rfl (by kernel_rfl) (set_same (set_same (set_same hN2 rfl) rfl) rfl) ?_
          exact ⟨rfl, ((hb5.setCell (Nat.le_refl _) _).setCell (Nat.le_refl _) _).setCell (Nat.le_refl _) _⟩
      · rw [if_neg hL] at h
        have p1 : (wd == [112, 117, 115, 104]) = false := by simpa [wPush] using hP
        have p2 : (wd == [108, 97, 98, 101, 108]) = false := by have : ¬ wd = wLabel := fun e => hL (.inl e); simpa [wLabel] using this
        have p3 : (wd == [106, 117, 109, 112]) = false := by have : ¬ wd = wJump := fun e => hL (.inr (.inl e)); simpa [wJump] using this
        have p4 : (wd == [105, 102]) = false := by have : ¬ wd = wIf := fun e => hL (.inr (.inr e)); simpa [wIf] using this
        cases hf : opF wd with
        | none => rw [hf] at h; cases h
        | some f =>
          rw [hf] at h
          injection h with h
          injection h with h1 h2
          subst h1 h2
          have hlk := (ops_lookup (W := w2.alloc (.map (opsE 21) 21)) (heap_alloc_new w2 _) wd f hf).2
          have hbm : Below w2.heap.size w2 (w2.alloc (.map (opsE 21) 21)) := (Below.refl _ _).alloc (Nat.le_refl _) _
          have hN2 := (hbm.block _ (Array.getElem?_eq_some_iff.1 hN).1).trans hN
          have m0 := Lib.cell_of_heap hN2 0
          have m1 := Lib.cell_of_heap hN2 1
          have m2 := Lib.cell_of_heap hN2 2
          have mz0 := Lib.frozen_of_heap hN2 0
          have mz1 := Lib.frozen_of_heap hN2 1
          have mz2 := Lib.frozen_of_heap hN2 2
          simp at m0 m1 m2
          have hb5 := hb3.trans (hbm.mono hb3.size)
          go_wp2_with (go_at_call 19; refine vm_operations.mono ?_; rintro e w' ⟨rfl, rfl⟩)
          refine bodyPost_row_tmp (cs := #[.int .i64 0, .string (bs wd), .string ⟨#[]⟩]) rfl rfl rfl Tryz.underlying71 rfl (by kernel_rfl) (set_same (set_same (set_same hN2 rfl) rfl) rfl) ?_
          exact ⟨rfl, ((hb5.setCell (Nat.le_refl _) _).setCell (Nat.le_refl _) _).setCell (Nat.le_refl _) _⟩
end Go.Proofs.YtejpkjcjoengbaaGreatDoor
