/-
  One line of the program, run by the machine: every operation by its contract.
-/
import Derived.Test.YtejpkjcjoengbaaGreatDoorVmP
import Derived.Test.YtejpkjcjoengbaaGreatDoorVmW
set_option linter.unusedVariables false
set_option linter.unusedSimpArgs false
namespace Go.Proofs.YtejpkjcjoengbaaGreatDoor
open Go.RowKit

section
variable {B b : Nat} {ev av iv : Value} {most : Int} {F : Nat → Prop} {s : MSt} {w w' : World}

theorem byteCells_at (y : List UInt8) (j : Nat) (x : Value) (h : (byteCells y)[j]? = some x) : ∃ u, y[j]? = some u ∧ x = .int .u8 u.toNat := by
  unfold byteCells at h
  rw [List.getElem?_map] at h
  cases hy : y[j]? with
  | none => rw [hy] at h; cases h
  | some u => rw [hy] at h; injection h with h; exact ⟨u, rfl, h.symm⟩

theorem vm_file_step (hmost : most ≤ 1048576) (h : MIs B b ev av iv most F s w) (st : List (List UInt8)) (y : List UInt8) (hs : s.st = st ++ [[], y]) (ho : s.out = none) (text : List UInt8) :
    Calls Tryz.prog 50 #[.pointer (some ⟨b, 0, none⟩), .string (bs text)] w
      (StepPost (if s.bytes + y.length > most then .error 42 else .ok { s with st := st, out := some (.mk 1 false y [] []), bytes := s.bytes + y.length }) B b ev av iv most F w) := by
  obtain ⟨sv, ov, G, h1, h2, h3, h4, h5, h6, h7⟩ := h
  rw [hs] at h1 h5
  rw [ho] at h2
  have hov : ov = .pointer none := h2
  subst hov
  have hy := h5.2 y (by simp)
  refine (vm_file_root st y h1 h5.1 (by omega) ⟨h6, by omega⟩ (bs text)).mono ?_
  rintro e w' ⟨he, sv', ov', ⟨N, d, M, rfl, hMN, hN, ⟨g, c, rfl, hg1, hg2, hg3⟩, hLM, hsv⟩, hmac, hm⟩
  have hNl : N < w'.heap.size := (Array.getElem?_eq_some_iff.1 hN).1
  have hbl := h1.lt
  by_cases hq : s.bytes + y.length > most
  · rw [if_pos hq]
    refine ⟨by rw [he]; simp [quotaV, hq, resS], F, ⟨hm.os, hm.tape, hm.output, hm.size, fun k hk hn => hm.block k hk (fun e => hn ((h4 k).2 (.inl e))) (fun e => hn ((h4 k).2 (.inr (.inl e)))), fun k hk => .inl hk⟩, fun s' h => by cases h⟩
  · rw [if_neg hq]
    refine ⟨by rw [he]; simp [quotaV, hq, resS], fun k => k = b ∨ sv'.ownBlock = some k ∨ (k = N ∨ k = g), ⟨hm.os, hm.tape, hm.output, hm.size, fun k hk hn => hm.block k hk (fun e => hn ((h4 k).2 (.inl e))) (fun e => hn ((h4 k).2 (.inr (.inl e)))), fun k hk => ?_⟩, fun s' h => ?_⟩
    · rcases hk with h | h | rfl | rfl
      · exact .inl ((h4 k).2 (.inl h))
      · rcases hm.fresh k h with h | h
        · exact .inl ((h4 k).2 (.inr (.inl h)))
        · exact .inr h
      · exact .inr (by omega)
      · exact .inr (by omega)
    · injection h with h
      subst h
      refine ⟨sv', _, fun k => k = N ∨ k = g, hmac, ⟨N, _, rfl, .inl rfl, hN, ?_⟩, fun k hk => ?_, fun k => Iff.rfl, h5.left, by show 0 ≤ s.bytes + y.length; omega, by show s.bytes + y.length ≤ 1048576; omega⟩
      · simp only [NdIs]
        refine ⟨_, _, _, rfl, ⟨by unfold maxLen; omega, _, _, rfl, fun _ => ⟨g, 0, rfl, .inr rfl, by simp [byteCells], fun j x hx => ?_⟩⟩, SliceIs.nil _ _ _, [], SliceIs.nil _ _ _, rfl⟩
        obtain ⟨u, hu, rfl⟩ := byteCells_at y j x hx
        rw [Nat.zero_add]
        exact hg3 j u hu
      · have hb1 := h1.base
        rcases hk with rfl | rfl
        · exact ⟨by omega, hNl, by omega, fun e => by have := hsv _ e; omega⟩
        · exact ⟨by omega, hg2, by omega, fun e => by have := hsv _ e; omega⟩

set_option maxHeartbeats 1000000 in
theorem op_step {W : Wd} {f : FuncId} {text : List UInt8} {r : SRes} (hs : stepF W most f text s = some r) (h : MIs B b ev av iv most F s w) (hg : Glob w) (hgB : Tryz.prog.globals.size ≤ B) (hW : WdIs B W ev av iv w) (hmost : most ≤ 1048576) :
    Calls Tryz.prog f #[.pointer (some ⟨b, 0, none⟩), .string (bs text)] w (StepPost r B b ev av iv most F w) := by
  have hall := h
  obtain ⟨sv, ov, G, h1, h2, h3, h4, h5, h6, h7⟩ := h
  have hlt := fun k hk => (h1.stk.lt k hk).2
  have hbig : ∀ x ∈ s.st, x.length ≤ 1000000 := fun x hx => by have := h5.2 x hx; omega
  unfold stepF at hs
  by_cases hf1 : f = 33
  · rw [if_pos hf1] at hs; subst hf1; injection hs with hs; subst hs
    exact (vm_push h1 h5.1 text).mono fun e w' hp => StepPost.of_op hp hlt h2 h3 h4 (fun st' e => h5.put e) h6 h7
  rw [if_neg hf1] at hs
  by_cases hf2 : f = 35
  · rw [if_pos hf2] at hs; subst hf2; injection hs with hs; subst hs
    refine (vm_nothing _ _ w).mono fun e w' hp => ?_
    obtain ⟨rfl, rfl⟩ := hp
    exact ⟨rfl, F, SFrame.refl F w, fun s' e => by injection e with e; subst e; exact hall⟩
  rw [if_neg hf2] at hs
  by_cases hf3 : f = 36
  · rw [if_pos hf3] at hs; subst hf3; injection hs with hs; subst hs
    exact (vm_jump h1 text).mono fun e w' hp => StepPost.of_op hp hlt h2 h3 h4 (fun st' e => by injection e with e; subst e; exact h5) h6 h7
  rw [if_neg hf3] at hs
  by_cases hf4 : f = 37
  · rw [if_pos hf4] at hs; subst hf4; injection hs with hs; subst hs
    refine (vm_choose h1 h5.1 text).mono fun e w' hp => StepPost.of_op hp hlt h2 h3 h4 (fun st' e => ?_) h6 h7
    unfold chooseR at e
    cases ht : top1 s.st with
    | none => rw [ht] at e; cases e
    | some p => rw [ht] at e; injection e with e; subst e; exact h5.top1 ht
  rw [if_neg hf4] at hs
  by_cases hf5 : f = 38
  · rw [if_pos hf5] at hs; subst hf5; injection hs with hs; subst hs
    refine (vm_env W.env hW.env h1 h5.1 (bs text)).mono fun e w' hp => StepPost.of_op hp hlt h2 h3 h4 (fun st' e => ?_) h6 h7
    unfold envR at e
    cases ht : top1 s.st with
    | none => rw [ht] at e; cases e
    | some p =>
      rw [ht] at e; dsimp only at e
      split at e
      · exact (h5.top1 ht).put e
      · cases e
  rw [if_neg hf5] at hs
  by_cases hf6 : f = 39
  · rw [if_pos hf6] at hs; subst hf6; injection hs with hs; subst hs
    refine (vm_arg W.args hW.args hg h1 hgB h5.1 hbig (bs text)).mono fun e w' hp => StepPost.of_op hp hlt h2 h3 h4 (fun st' e => ?_) h6 h7
    unfold argR at e
    cases ht : top1 s.st with
    | none => rw [ht] at e; cases e
    | some p =>
      rw [ht] at e; dsimp only at e
      split at e
      · split at e
        · exact (h5.top1 ht).put e
        · cases e
      · cases e
  rw [if_neg hf6] at hs
  by_cases hf7 : f = 40
  · rw [if_pos hf7] at hs; subst hf7; injection hs with hs; subst hs
    obtain ⟨ics, hi1, hi2⟩ := hW.inputs
    refine (vm_read_op hg h1 hgB h5.1 hbig hi1 hi2 (fun y hy => (hW.paths y hy).1) (bs text)).mono fun e w' hp => StepPost.of_op hp hlt h2 h3 h4 (fun st' e => ?_) h6 h7
    unfold readR at e
    cases ht : top1 s.st with
    | none => rw [ht] at e; cases e
    | some p =>
      rw [ht] at e; dsimp only at e
      split at e
      · split at e
        · exact (h5.top1 ht).put e
        · cases e
      · cases e
  rw [if_neg hf7] at hs
  by_cases hf8 : f = 41
  · rw [if_pos hf8] at hs; subst hf8; injection hs with hs; subst hs
    obtain ⟨ics, hi1, hi2⟩ := hW.inputs
    refine (vm_list_op hg h1 hgB h5.1 hbig hi1 hi2 hW.paths (bs text)).mono fun e w' hp => StepPost.of_op hp hlt h2 h3 h4 (fun st' e => ?_) h6 h7
    unfold listR at e
    cases ht : top1 s.st with
    | none => rw [ht] at e; cases e
    | some p =>
      rw [ht] at e; dsimp only at e
      split at e
      · split at e
        · exact (h5.top1 ht).put e
        · cases e
      · cases e
  rw [if_neg hf8] at hs
  by_cases hf9 : f = 42
  · rw [if_pos hf9] at hs; subst hf9; injection hs with hs; subst hs
    exact (vm_cat hg h1 hgB h5.1 hbig (bs text)).mono fun e w' hp => StepPost.of_op hp hlt h2 h3 h4 (fun st' e => h5.two e) h6 h7
  rw [if_neg hf9] at hs
  by_cases hf10 : f = 43
  · rw [if_pos hf10] at hs; subst hf10; injection hs with hs; subst hs
    refine (vm_dup h1 h5.1 (bs text)).mono fun e w' hp => StepPost.of_op hp hlt h2 h3 h4 (fun st' e => ?_) h6 h7
    unfold dupR at e
    cases ht : top1 s.st with
    | none => rw [ht] at e; cases e
    | some p => rw [ht] at e; exact (h5.top1 ht).put e
  rw [if_neg hf10] at hs
  by_cases hf11 : f = 44
  · rw [if_pos hf11] at hs; subst hf11; injection hs with hs; subst hs
    refine (vm_swap h1 h5.1 (bs text)).mono fun e w' hp => StepPost.of_op hp hlt h2 h3 h4 (fun st' e => ?_) h6 h7
    unfold swapR at e
    cases ht : top2 s.st with
    | none => rw [ht] at e; cases e
    | some p => rw [ht] at e; exact (h5.top2 ht).put e
  rw [if_neg hf11] at hs
  by_cases hf12 : f = 45
  · rw [if_pos hf12] at hs; subst hf12; injection hs with hs; subst hs
    refine (vm_drop h1 h5.1 (bs text)).mono fun e w' hp => StepPost.of_op hp hlt h2 h3 h4 (fun st' e => ?_) h6 h7
    unfold dropR at e
    cases ht : top1 s.st with
    | none => rw [ht] at e; cases e
    | some p => rw [ht] at e; injection e with e; subst e; exact h5.top1 ht
  rw [if_neg hf12] at hs
  by_cases hf13 : f = 46
  · rw [if_pos hf13] at hs; subst hf13; injection hs with hs; subst hs
    refine (vm_length hg h1 hgB h5.1 hbig (bs text)).mono fun e w' hp => StepPost.of_op hp hlt h2 h3 h4 (fun st' e => ?_) h6 h7
    unfold lengthR at e
    cases ht : top1 s.st with
    | none => rw [ht] at e; cases e
    | some p => rw [ht] at e; exact (h5.top1 ht).put e
  rw [if_neg hf13] at hs
  by_cases hf14 : f = 47
  · rw [if_pos hf14] at hs; subst hf14; injection hs with hs; subst hs
    exact (vm_eq hg h1 hgB h5.1 hbig (bs text)).mono fun e w' hp => StepPost.of_op hp hlt h2 h3 h4 (fun st' e => h5.two e) h6 h7
  rw [if_neg hf14] at hs
  by_cases hf15 : f = 48
  · rw [if_pos hf15] at hs; subst hf15; injection hs with hs; subst hs
    exact (vm_add hg h1 hgB h5.1 hbig (bs text)).mono fun e w' hp => StepPost.of_op hp hlt h2 h3 h4 (fun st' e => h5.two e) h6 h7
  rw [if_neg hf15] at hs
  by_cases hf16 : f = 49
  · rw [if_pos hf16] at hs; subst hf16; injection hs with hs; subst hs
    exact (vm_sub hg h1 hgB h5.1 hbig (bs text)).mono fun e w' hp => StepPost.of_op hp hlt h2 h3 h4 (fun st' e => h5.two e) h6 h7
  rw [if_neg hf16] at hs
  by_cases hf17 : f = 50
  · rw [if_pos hf17] at hs; subst hf17
    unfold pairF at hs
    cases ht : top2 s.st with
    | none => rw [ht] at hs; cases hs
    | some p =>
      obtain ⟨st, p, y⟩ := p
      rw [ht] at hs
      dsimp only [emitF] at hs
      split at hs
      · rename_i hp
        subst hp
        cases ho : s.out with
        | some n => rw [ho] at hs; cases hs
        | none =>
          rw [ho] at hs
          injection hs with hs
          subst hs
          exact vm_file_step hmost hall st y (top2_some ht) ho text
      · cases hs
  rw [if_neg hf17] at hs
  by_cases hf18 : f = 54
  · rw [if_pos hf18] at hs; subst hf18; injection hs with hs; subst hs
    refine (vm_fail _ _ w).mono fun e w' hp => ?_
    obtain ⟨rfl, rfl⟩ := hp
    exact ⟨rfl, F, SFrame.refl F w, fun s' e => by cases e⟩
  rw [if_neg hf18] at hs
  cases hs
end
end Go.Proofs.YtejpkjcjoengbaaGreatDoor
