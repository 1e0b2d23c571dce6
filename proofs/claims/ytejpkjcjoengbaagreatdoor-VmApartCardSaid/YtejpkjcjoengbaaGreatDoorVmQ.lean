/-
  One line of the program, run by the machine: every operation by its contract.
-/
import Derived.Test.YtejpkjcjoengbaaGreatDoorVmY
import Derived.Test.YtejpkjcjoengbaaGreatDoorVmW
set_option linter.unusedVariables false
set_option linter.unusedSimpArgs false
namespace Go.Proofs.YtejpkjcjoengbaaGreatDoor
open Go.RowKit

theorem top1_none {st : List (List UInt8)} (h : top1 st = none) : st.length < 1 := by
  rcases top1_cases st with ⟨_, h1⟩ | ⟨s', x', rfl⟩
  · first | (rw [h1]; decide) | omega | (subst h1; decide)
  · rw [top1_snoc] at h; cases h
theorem top2_none {st : List (List UInt8)} (h : top2 st = none) : st.length < 2 := by
  rcases top2_cases st with ⟨_, h1⟩ | ⟨s', x', y', rfl⟩
  · omega
  · rw [top2_snoc] at h; cases h

section
variable {B b : Nat} {ev av iv : Value} {most : Int} {F : Nat → Prop} {s : MSt} {w w' : World}

set_option maxHeartbeats 1000000 in
theorem op_step {W : Wd} {f : FuncId} {text : List UInt8} {r : SRes} (hs : stepF W most f text s = some r) (h : MIs B b ev av iv most F s w) (hg : Glob w) (hgB : Tryz.prog.globals.size ≤ B) (hW : WdIs B W ev av iv w) (hmost : most ≤ 1048576) (hsz : outSz s.out ≤ 40000000) :
    Calls Tryz.prog f #[.pointer (some ⟨b, 0, none⟩), .string (bs text)] w (StepPost r B b ev av iv most F w) := by
  have hall := h
  obtain ⟨sv, ov, G, h1, h2, h3, h4, h5, h6, h7⟩ := h
  have hlt := fun k hk => (h1.stk.lt k hk).2
  have hbig : ∀ x ∈ s.st, x.length ≤ 1000000 := fun x hx => by have := h5.2 x hx; omega
  unfold stepF at hs
  by_cases hf1 : f = 33
  · rw [if_pos hf1] at hs; subst hf1; injection hs with hs; subst hs
    exact (vm_push h1 h5.1 text).mono fun e w' hp => StepPost.of_op hp hlt h2 h3 h4 (fun st' e => h5.put e) h6 h7
  rw [if_neg hf1] at hs
  by_cases hf2 : f = 35
  · rw [if_pos hf2] at hs; subst hf2; injection hs with hs; subst hs
    refine (vm_nothing _ _ w).mono fun e w' hp => ?_
    obtain ⟨rfl, rfl⟩ := hp
    exact ⟨rfl, F, SFrame.refl F w, fun s' e => by injection e with e; subst e; exact hall⟩
  rw [if_neg hf2] at hs
  by_cases hf3 : f = 36
  · rw [if_pos hf3] at hs; subst hf3; injection hs with hs; subst hs
    exact (vm_jump h1 text).mono fun e w' hp => StepPost.of_op hp hlt h2 h3 h4 (fun st' e => by injection e with e; subst e; exact h5) h6 h7
  rw [if_neg hf3] at hs
  by_cases hf4 : f = 37
  · rw [if_pos hf4] at hs; subst hf4; injection hs with hs; subst hs
    refine (vm_choose h1 h5.1 text).mono fun e w' hp => StepPost.of_op hp hlt h2 h3 h4 (fun st' e => ?_) h6 h7
    unfold chooseR at e
    cases ht : top1 s.st with
    | none => rw [ht] at e; cases e
    | some p => rw [ht] at e; injection e with e; subst e; exact h5.top1 ht
  rw [if_neg hf4] at hs
  by_cases hf5 : f = 38
  · rw [if_pos hf5] at hs; subst hf5; injection hs with hs; subst hs
    refine (vm_env W.env hW.env h1 h5.1 (bs text)).mono fun e w' hp => StepPost.of_op hp hlt h2 h3 h4 (fun st' e => ?_) h6 h7
    unfold envR at e
    cases ht : top1 s.st with
    | none => rw [ht] at e; cases e
    | some p =>
      rw [ht] at e; dsimp only at e
      split at e
      · exact (h5.top1 ht).put e
      · cases e
  rw [if_neg hf5] at hs
  by_cases hf6 : f = 39
  · rw [if_pos hf6] at hs; subst hf6; injection hs with hs; subst hs
    refine (vm_arg W.args hW.args hg h1 hgB h5.1 hbig (bs text)).mono fun e w' hp => StepPost.of_op hp hlt h2 h3 h4 (fun st' e => ?_) h6 h7
    unfold argR at e
    cases ht : top1 s.st with
    | none => rw [ht] at e; cases e
    | some p =>
      rw [ht] at e; dsimp only at e
      split at e
      · split at e
        · exact (h5.top1 ht).put e
        · cases e
      · cases e
  rw [if_neg hf6] at hs
  by_cases hf7 : f = 40
  · rw [if_pos hf7] at hs; subst hf7; injection hs with hs; subst hs
    obtain ⟨ics, hi1, hi2⟩ := hW.inputs
    refine (vm_read_op hg h1 hgB h5.1 hbig hi1 hi2 hW.paths (bs text)).mono fun e w' hp => StepPost.of_op hp hlt h2 h3 h4 (fun st' e => ?_) h6 h7
    unfold readR at e
    cases ht : top1 s.st with
    | none => rw [ht] at e; cases e
    | some p =>
      rw [ht] at e; dsimp only at e
      split at e
      · split at e
        · exact (h5.top1 ht).put e
        · cases e
      · cases e
  rw [if_neg hf7] at hs
  by_cases hf8 : f = 41
  · rw [if_pos hf8] at hs; subst hf8
    obtain ⟨hlo, hs⟩ := ite_some hs
    subst hs
    obtain ⟨ics, hi1, hi2⟩ := hW.inputs
    refine (vm_list_op hg h1 hgB h5.1 hbig hi1 hi2 hW.paths hlo (bs text)).mono fun e w' hp => StepPost.of_op hp hlt h2 h3 h4 (fun st' e => ?_) h6 h7
    unfold listR at e
    cases ht : top1 s.st with
    | none => rw [ht] at e; cases e
    | some p =>
      rw [ht] at e; dsimp only at e
      split at e
      · split at e
        · exact (h5.top1 ht).put e
        · cases e
      · cases e
  rw [if_neg hf8] at hs
  by_cases hf9 : f = 42
  · rw [if_pos hf9] at hs; subst hf9; injection hs with hs; subst hs
    exact (vm_cat hg h1 hgB h5.1 hbig (bs text)).mono fun e w' hp => StepPost.of_op hp hlt h2 h3 h4 (fun st' e => h5.two e) h6 h7
  rw [if_neg hf9] at hs
  by_cases hf10 : f = 43
  · rw [if_pos hf10] at hs; subst hf10; injection hs with hs; subst hs
    refine (vm_dup h1 h5.1 (bs text)).mono fun e w' hp => StepPost.of_op hp hlt h2 h3 h4 (fun st' e => ?_) h6 h7
    unfold dupR at e
    cases ht : top1 s.st with
    | none => rw [ht] at e; cases e
    | some p => rw [ht] at e; exact (h5.top1 ht).put e
  rw [if_neg hf10] at hs
  by_cases hf11 : f = 44
  · rw [if_pos hf11] at hs; subst hf11; injection hs with hs; subst hs
    refine (vm_swap h1 h5.1 (bs text)).mono fun e w' hp => StepPost.of_op hp hlt h2 h3 h4 (fun st' e => ?_) h6 h7
    unfold swapR at e
    cases ht : top2 s.st with
    | none => rw [ht] at e; cases e
    | some p => rw [ht] at e; exact (h5.top2 ht).put e
  rw [if_neg hf11] at hs
  by_cases hf12 : f = 45
  · rw [if_pos hf12] at hs; subst hf12; injection hs with hs; subst hs
    refine (vm_drop h1 h5.1 (bs text)).mono fun e w' hp => StepPost.of_op hp hlt h2 h3 h4 (fun st' e => ?_) h6 h7
    unfold dropR at e
    cases ht : top1 s.st with
    | none => rw [ht] at e; cases e
    | some p => rw [ht] at e; injection e with e; subst e; exact h5.top1 ht
  rw [if_neg hf12] at hs
  by_cases hf13 : f = 46
  · rw [if_pos hf13] at hs; subst hf13; injection hs with hs; subst hs
    refine (vm_length hg h1 hgB h5.1 hbig (bs text)).mono fun e w' hp => StepPost.of_op hp hlt h2 h3 h4 (fun st' e => ?_) h6 h7
    unfold lengthR at e
    cases ht : top1 s.st with
    | none => rw [ht] at e; cases e
    | some p => rw [ht] at e; exact (h5.top1 ht).put e
  rw [if_neg hf13] at hs
  by_cases hf14 : f = 47
  · rw [if_pos hf14] at hs; subst hf14; injection hs with hs; subst hs
    exact (vm_eq hg h1 hgB h5.1 hbig (bs text)).mono fun e w' hp => StepPost.of_op hp hlt h2 h3 h4 (fun st' e => h5.two e) h6 h7
  rw [if_neg hf14] at hs
  by_cases hf15 : f = 48
  · rw [if_pos hf15] at hs; subst hf15; injection hs with hs; subst hs
    exact (vm_add hg h1 hgB h5.1 hbig (bs text)).mono fun e w' hp => StepPost.of_op hp hlt h2 h3 h4 (fun st' e => h5.two e) h6 h7
  rw [if_neg hf15] at hs
  by_cases hf16 : f = 49
  · rw [if_pos hf16] at hs; subst hf16; injection hs with hs; subst hs
    exact (vm_sub hg h1 hgB h5.1 hbig (bs text)).mono fun e w' hp => StepPost.of_op hp hlt h2 h3 h4 (fun st' e => h5.two e) h6 h7
  rw [if_neg hf16] at hs
  by_cases hf17 : f = 50
  · rw [if_pos hf17] at hs; subst hf17; injection hs with hs; subst hs
    unfold pairF
    cases ht : top2 s.st with
    | none => exact vm_file_few hall (top2_none ht) (bs text)
    | some p =>
      obtain ⟨st, p, y⟩ := p
      exact vm_file2 hall hg hgB hmost st p y (top2_some ht) hsz (bs text)
  rw [if_neg hf17] at hs
  by_cases hf19 : f = 51
  · rw [if_pos hf19] at hs; subst hf19; injection hs with hs; subst hs
    unfold pairF
    cases ht : top2 s.st with
    | none => exact vm_exec_few hall (top2_none ht) (bs text)
    | some p =>
      obtain ⟨st, p, y⟩ := p
      exact vm_exec2 hall hg hgB hmost st p y (top2_some ht) hsz (bs text)
  rw [if_neg hf19] at hs
  by_cases hf20 : f = 53
  · rw [if_pos hf20] at hs; subst hf20; injection hs with hs; subst hs
    unfold pairF
    cases ht : top2 s.st with
    | none => exact vm_link_few hall (top2_none ht) (bs text)
    | some p =>
      obtain ⟨st, p, y⟩ := p
      exact vm_link2 hall hg hgB hmost st p y (top2_some ht) hsz (bs text)
  rw [if_neg hf20] at hs
  by_cases hf21 : f = 52
  · rw [if_pos hf21] at hs; subst hf21; injection hs with hs; subst hs
    unfold dirF
    cases ht : top1 s.st with
    | none => exact vm_dir_few hall (top1_none ht) (bs text)
    | some p =>
      obtain ⟨st, p⟩ := p
      exact vm_dir2 hall hg hgB hmost st p (top1_some ht) hsz (bs text)
  rw [if_neg hf21] at hs
  by_cases hf18 : f = 54
  · rw [if_pos hf18] at hs; subst hf18; injection hs with hs; subst hs
    refine (vm_fail _ _ w).mono fun e w' hp => ?_
    obtain ⟨rfl, rfl⟩ := hp
    exact ⟨rfl, F, SFrame.refl F w, fun s' e => by cases e⟩
  rw [if_neg hf18] at hs
  cases hs
end
end Go.Proofs.YtejpkjcjoengbaaGreatDoor
