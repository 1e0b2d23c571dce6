/-
  machine.run, by walk.
-/
import Derived.Test.YtejpkjcjoengbaaGreatDoorVmQ
import Derived.Test.YtejpkjcjoengbaaGreatDoorVmO
import Derived.StillTailTactics
set_option linter.unusedVariables false
set_option linter.unusedSimpArgs false
namespace Go.Proofs.YtejpkjcjoengbaaGreatDoor
open Go.RowKit Go.WalkArith

theorem labUp_bounds (ls : List PLine) (y : List UInt8) : ∀ k, 0 ≤ labUp ls k y ∧ labUp ls k y ≤ k
  | 0 => by simp [labUp]
  | k + 1 => by
    have := labUp_bounds ls y k
    unfold labUp
    split
    · split <;> omega
    · omega

def entersB (P : Program) (f : FuncId) : Bool := match P.funcs[f]? with | some fn => !(fn.name == "runtime.NumGoroutine") && fn.body.isSome | none => false
theorem ops_all : opsList.all (fun p => entersB Tryz.prog p.2) = true := by kernel_rfl
theorem ops_enter {x : List UInt8} {f : FuncId} (h : opF x = some f) (args : Array Value) (w : World) : (callFunc f args).run Tryz.prog w = .ok (.enter f args) w := by
  have hm : ∃ p ∈ opsList, p.2 = f := by
    unfold opF at h
    cases hf : opsList.find? fun p => p.1 == x with
    | none => rw [hf] at h; cases h
    | some p => rw [hf] at h; injection h with h; exact ⟨p, List.mem_of_find?_eq_some hf, h⟩
  obtain ⟨p, hp, rfl⟩ := hm
  have hb := List.all_eq_true.1 ops_all p hp
  unfold entersB at hb
  cases hf : Tryz.prog.funcs[p.2]? with
  | none => rw [hf] at hb; cases hb
  | some fn =>
    rw [hf] at hb
    simp only [Bool.and_eq_true, Bool.not_eq_true'] at hb
    have h1 : fn.name ≠ "runtime.NumGoroutine" := by simpa using hb.1
    obtain ⟨c, hc⟩ := Option.isSome_iff_exists.1 hb.2
    simp [callFunc, hf, h1, hc]

theorem ite_or {α : Type} {c : Prop} [Decidable c] {a b x : α} (h : (if c then a else b) = x) : (c ∧ a = x) ∨ (¬ c ∧ b = x) := by
  by_cases hc : c
  · rw [if_pos hc] at h; exact .inl ⟨hc, h⟩
  · rw [if_neg hc] at h; exact .inr ⟨hc, h⟩
theorem ofO_lb {s s' : MSt} {lb : List UInt8} {r : ORes} (h : some (ofO s lb r) = some (.ok s')) : s'.lb = lb := by
  injection h with h
  unfold ofO at h
  cases r with
  | error n => cases h
  | ok st => injection h with h; subst h; rfl
theorem chooseLb_or (st : List (List UInt8)) (s lb : List UInt8) : chooseLb st s lb = lb ∨ chooseLb st s lb = s := by
  unfold chooseLb
  split
  · exact .inl rfl
  · split
    · exact .inl rfl
    · exact .inr rfl
theorem emitF_facts {most : Int} {s s' : MSt} {p : List UInt8} {n : Nd} (h : emitF most s p n = .ok s') : s'.lb = s.lb ∧ (p.length ≤ 65536 → (∀ m, s.out = some m → NdEq m) → NdEq n → outSz s'.out ≤ outSz s.out + 1 + szF n) := by
  have hdone : ∀ t, doneF most s n t = .ok s' → s'.lb = s.lb ∧ s'.out = some t := fun t ht => by
    unfold doneF at ht
    split at ht
    · cases ht
    · injection ht with ht; subst ht; exact ⟨rfl, rfl⟩
  by_cases hp : p = []
  · unfold emitF at h
    rw [if_pos hp] at h
    split at h
    · cases h
    · rename_i ho
      obtain ⟨h1, h2⟩ := hdone _ h
      exact ⟨h1, fun _ _ _ => by rw [h2]; simp only [outSz]; omega⟩
  · rw [emitF_path most s n hp] at h
    cases hr : resF (s.out.getD emptyDir) (splitSl p) n with
    | error x => rw [hr] at h; cases h
    | ok t =>
      rw [hr] at h
      obtain ⟨h1, h2⟩ := hdone _ h
      refine ⟨h1, fun hpl hE hn => ?_⟩
      unfold resF at hr
      split at hr
      · cases hr
      · have hE0 : NdEq (s.out.getD emptyDir) := by
          cases ho : s.out with
          | none => simp [emptyDir, NdEq, NdsEq]
          | some m => exact hE m ho
        have h3 := (placeF_ok _ _ _ _ (splitSl_mem p hpl) hE0 hn hr).2
        have h4 : szF (s.out.getD emptyDir) ≤ outSz s.out + 1 := by
          cases s.out with
          | none => simp [emptyDir, outSz, szF, szsF]
          | some m => simp [outSz]
        rw [h2]
        show szF t ≤ outSz s.out + 1 + szF n
        omega
theorem pairF_facts {most : Int} {s s' : MSt} {k : Int} {x : Bool} (h : pairF most s k x = .ok s') : s'.lb = s.lb ∧ (stOk s.st → (∀ m, s.out = some m → NdEq m) → outSz s'.out ≤ outSz s.out + 2) := by
  unfold pairF at h
  split at h
  · cases h
  · rename_i st p y ht
    obtain ⟨h1, h2⟩ := emitF_facts h
    refine ⟨h1, fun hst hE => ?_⟩
    rw [top2_some ht] at hst
    have := h2 (hst.2 p (by simp)) hE (by simp [NdEq, NdsEq])
    simpa [szF, szsF] using this
theorem dirF_facts {most : Int} {s s' : MSt} (h : dirF most s = .ok s') : s'.lb = s.lb ∧ (stOk s.st → (∀ m, s.out = some m → NdEq m) → outSz s'.out ≤ outSz s.out + 2) := by
  unfold dirF at h
  split at h
  · cases h
  · rename_i st p ht
    obtain ⟨h1, h2⟩ := emitF_facts h
    refine ⟨h1, fun hst hE => ?_⟩
    rw [top1_some ht] at hst
    have := h2 (hst.2 p (by simp)) hE (by simp [emptyDir, NdEq, NdsEq])
    simpa [emptyDir, szF, szsF] using this
theorem ofO_out {s s' : MSt} {lb : List UInt8} {r : ORes} (h : some (ofO s lb r) = some (.ok s')) : s'.out = s.out := by
  injection h with h
  unfold ofO at h
  cases r with
  | error n => cases h
  | ok st => injection h with h; subst h; rfl
theorem stepF_all {W : Wd} {most : Int} {f : FuncId} {text : List UInt8} {s s' : MSt} (h : stepF W most f text s = some (.ok s')) : (s'.lb = s.lb ∨ s'.lb = text) ∧ (stOk s.st → (∀ m, s.out = some m → NdEq m) → outSz s'.out ≤ outSz s.out + 2) := by
  have hof : ∀ {lb : List UInt8} {r : ORes}, some (ofO s lb r) = some (.ok s') → lb = s.lb ∨ lb = text → (s'.lb = s.lb ∨ s'.lb = text) ∧ (stOk s.st → (∀ m, s.out = some m → NdEq m) → outSz s'.out ≤ outSz s.out + 2) := fun h hl => ⟨by rw [ofO_lb h]; exact hl, fun _ _ => by rw [ofO_out h]; omega⟩
  unfold stepF at h
  rcases ite_or h with ⟨_, h⟩ | ⟨_, h⟩
  · exact hof h (.inl rfl)
  rcases ite_or h with ⟨_, h⟩ | ⟨_, h⟩
  · injection h with h; injection h with h; subst h; exact ⟨.inl rfl, fun _ _ => by omega⟩
  rcases ite_or h with ⟨_, h⟩ | ⟨_, h⟩
  · exact hof h (.inr rfl)
  rcases ite_or h with ⟨_, h⟩ | ⟨_, h⟩
  · exact hof h (chooseLb_or _ _ _)
  rcases ite_or h with ⟨_, h⟩ | ⟨_, h⟩
  · exact hof h (.inl rfl)
  rcases ite_or h with ⟨_, h⟩ | ⟨_, h⟩
  · exact hof h (.inl rfl)
  rcases ite_or h with ⟨_, h⟩ | ⟨_, h⟩
  · exact hof h (.inl rfl)
  rcases ite_or h with ⟨_, h⟩ | ⟨_, h⟩
  · obtain ⟨_, h⟩ := ite_some h
    exact hof (congrArg some h) (.inl rfl)
  rcases ite_or h with ⟨_, h⟩ | ⟨_, h⟩
  · exact hof h (.inl rfl)
  rcases ite_or h with ⟨_, h⟩ | ⟨_, h⟩
  · exact hof h (.inl rfl)
  rcases ite_or h with ⟨_, h⟩ | ⟨_, h⟩
  · exact hof h (.inl rfl)
  rcases ite_or h with ⟨_, h⟩ | ⟨_, h⟩
  · exact hof h (.inl rfl)
  rcases ite_or h with ⟨_, h⟩ | ⟨_, h⟩
  · exact hof h (.inl rfl)
  rcases ite_or h with ⟨_, h⟩ | ⟨_, h⟩
  · exact hof h (.inl rfl)
  rcases ite_or h with ⟨_, h⟩ | ⟨_, h⟩
  · exact hof h (.inl rfl)
  rcases ite_or h with ⟨_, h⟩ | ⟨_, h⟩
  · exact hof h (.inl rfl)
  rcases ite_or h with ⟨_, h⟩ | ⟨_, h⟩
  · injection h with h; exact ⟨.inl (pairF_facts h).1, (pairF_facts h).2⟩
  rcases ite_or h with ⟨_, h⟩ | ⟨_, h⟩
  · injection h with h; exact ⟨.inl (pairF_facts h).1, (pairF_facts h).2⟩
  rcases ite_or h with ⟨_, h⟩ | ⟨_, h⟩
  · injection h with h; exact ⟨.inl (pairF_facts h).1, (pairF_facts h).2⟩
  rcases ite_or h with ⟨_, h⟩ | ⟨_, h⟩
  · injection h with h; exact ⟨.inl (dirF_facts h).1, (dirF_facts h).2⟩
  rcases ite_or h with ⟨_, h⟩ | ⟨_, h⟩
  · cases h
  · cases h
theorem stepF_lb {W : Wd} {most : Int} {f : FuncId} {text : List UInt8} {s s' : MSt} (h : stepF W most f text s = some (.ok s')) : s'.lb = s.lb ∨ s'.lb = text := (stepF_all h).1

section
variable {B b : Nat} {ev av iv : Value} {most : Int} {F : Nat → Prop} {s : MSt} {w w' : World}
theorem MIs.go (h : MIs B b ev av iv most F s w) (lb' : List UInt8) : MIs B b ev av iv most F { s with lb := lb' } (w.setCell ⟨b, 7, none⟩ (.string (bs lb'))) ∧ SFrame F F w (w.setCell ⟨b, 7, none⟩ (.string (bs lb'))) := by
  obtain ⟨sv, ov, G, h1, h2, h3, h4, h5⟩ := h
  have hsz : (w.setCell ⟨b, 7, none⟩ (.string (bs lb'))).heap.size = w.heap.size := by simp [World.setCell]
  refine ⟨⟨sv, ov, G, (h1.go lb').1, h2.kept (by omega) (fun k hk => Below.heap_setCell _ _ _ _ (h3 k hk).2.2.1), fun k hk => by rw [hsz]; exact h3 k hk, h4, h5⟩, rfl, rfl, rfl, by omega, fun k hk hn => Below.heap_setCell _ _ _ _ (fun e => hn ((h4 k).2 (.inl e))), fun k hk => .inl hk⟩
theorem MIs.label (h : MIs B b ev av iv most F s w) : w.cell? ⟨b, 7, none⟩ = some (.string (bs s.lb)) ∧ w.frozen? ⟨b, 7, none⟩ = false := by
  obtain ⟨sv, ov, G, h1, _⟩ := h
  have := h1.cell 7
  simp at this
  exact ⟨this, h1.frozen 7⟩
theorem MIs.good (h : MIs B b ev av iv most F s w) : stOk s.st ∧ ∀ m, s.out = some m → NdEq m := by
  obtain ⟨sv, ov, G, h1, h2, h3, h4, h5, h6⟩ := h
  refine ⟨h5, fun m hm => ?_⟩
  rw [hm] at h2
  obtain ⟨_, _, _, _, _, _, _, _, _, h7⟩ := h2
  exact h7
theorem MIs.foot_b (h : MIs B b ev av iv most F s w) : F b := by
  obtain ⟨sv, ov, G, h1, h2, h3, h4, h5⟩ := h
  exact (h4 b).2 (.inl rfl)

def RunInv (B b : Nat) (ev av iv : Value) (most : Int) (F : Nat → Prop) (W : Wd) (ls : List PLine) (steps : Int) (res : Int × SRes) (M O : Nat) (w0 : World) (k : Nat) (n : Int) (w : World) : Prop :=
  ∃ f s F', runF' W most ls steps f k n s = some res ∧ MIs B b ev av iv most F' s w ∧ SFrame F F' w0 w ∧ LabM M 4096 (labUp ls ls.length) w ∧ ¬ F' M ∧ w.heap[O]? = some (.map (opsE 21) 21) ∧ ¬ F' O ∧ (outSz s.out : Int) ≤ 2 * n

def RunPost (B b : Nat) (ev av iv : Value) (most : Int) (F : Nat → Prop) (res : Int × SRes) (w : World) (e : Ending) (w' : World) : Prop :=
  e = .returned (.tuple #[.int .i64 res.1, resS res.2]) ∧ ∃ F', SFrame F F' w w' ∧ ∀ s', res.2 = .ok s' → (MIs B b ev av iv most F' s' w' ∧ (outSz s'.out : Int) ≤ 2097152)

set_option maxHeartbeats 1000000 in
set_option maxRecDepth 100000 in
theorem vm_run {W : Wd} {ls : List PLine} {lv : Value} (hl : HeldRow B lv ls.length (lineCells ls) w) {steps : Int} (hst0 : 1 ≤ steps) (hst1 : steps ≤ 1048576) (h : MIs B b ev av iv most F s w) (hg : Glob w) (hgB : Tryz.prog.globals.size ≤ B) (hW : WdIs B W ev av iv w) (hmost : most ≤ 1048576)
    (hlen : ls.length ≤ 4096) (htx : ∀ x ∈ ls, x.text.length ≤ 60000) (fuel : Nat) (res : Int × SRes) (hr : runF' W most ls steps fuel 0 0 s = some res) (hz0 : outSz s.out = 0) :
    Calls Tryz.prog 13 #[.pointer (some ⟨b, 0, none⟩), lv, .int .i64 steps] w (RunPost B b ev av iv most F res w) := by
  have hmm := @run_makeMap Tryz.prog
  have hbl := h.base
  have hHL := Lib.hid hl
  obtain ⟨hln, A, cp, rfl, hA⟩ := hl
  go_enter Tryz.func13, Tryz.ntmps13
  go_wp2
  go_step3
  go_wp2
  go_loopw [18] (fun i wx => ∃ k : Nat, k ≤ ls.length ∧ i = .int .i64 k ∧ LabM w.heap.size k (labUp ls k) wx ∧ Below w.heap.size w wx) (fun i wx => ls.length - (intOf i).toNat)
  case atStart => exact ⟨0, Nat.zero_le _, rfl, LabM.made w, (Below.refl _ _).alloc (Nat.le_refl _) _⟩
  case round =>
    obtain ⟨k, hk, rfl, hlab, hbx⟩ := hrel
    by_cases hlt : k < ls.length
    · obtain ⟨g, o, rfl, hgB2, hcs⟩ := hA (by omega)
      obtain ⟨l0, l1, l2⟩ := lineCells_at ls k hlt
      have hgw : g < w.heap.size := by omega
      have c0 := (hbx.cell (p := ⟨g, o + k * 3, none⟩) hgw).trans (hcs _ _ l0)
      have c1 : wr.cell? ⟨g, o + k * 3 + 1, none⟩ = some (.string (bs ls[k].word)) := (hbx.cell (p := ⟨g, o + k * 3 + 1, none⟩) hgw).trans (hcs _ _ l1)
      have c2 : wr.cell? ⟨g, o + k * 3 + 2, none⟩ = some (.string (bs ls[k].text)) := (hbx.cell (p := ⟨g, o + k * 3 + 2, none⟩) hgw).trans (hcs _ _ l2)
      have hup : labUp ls (k + 1) = fun y => if ls[k].word = wLabel ∧ y = ls[k].text then (k : Int) else labUp ls k y := by
        funext y
        rw [labUp, List.getElem?_eq_getElem hlt]
      have htl := htx ls[k] (List.getElem_mem hlt)
      generalize ls[k] = x at *
      obtain ⟨xa, xw, xt⟩ := x
      simp only at c0 c1 c2 htl hup
      have hlx := hlab.below ((Below.refl _ _).alloc (Nat.le_refl _) (.cells #[.int .i64 xa, .string (bs xw), .string (bs xt)] 71))
      have hbxa := hbx.alloc (o := .cells #[.int .i64 xa, .string (bs xw), .string (bs xt)] 71) hbx.size
      have HU := Lib.hid hup
      clear hup l0 l1 l2 hlab
      by_cases hw1 : xw = wLabel
      · have q1 : (xw == [108, 97, 98, 101, 108]) = true := by simp [hw1, wLabel]
        obtain ⟨w4, hset, hlab4, hg4⟩ := hlx.set (by unfold maxLen; omega) xt (by unfold maxLen; omega) k (wf_i64 (by omega))
        have hfin : LabM w.heap.size (k + 1) (labUp ls (k + 1)) w4 := by
          rw [HU.out]
          have : (fun y => if xw = wLabel ∧ y = xt then (k : Int) else labUp ls k y) = fun y => if y = xt then (k : Int) else labUp ls k y := by funext y; simp [hw1]
          rw [this]; exact hlab4
        have hb4 : Below w.heap.size w w4 := hbxa.grown hg4 hbxa.size (fun g hg => by injection hg with hg; omega)
        have HF := Lib.hid hfin
        clear hfin hlab4 hg4 hlx hbxa hw1
        go_wp2
        go_roundw
        case rel => exact ⟨k + 1, by omega, by go_num, HF.out, hb4⟩
        case measure => simp [intOf]; omega
      · have q1 : (xw == [108, 97, 98, 101, 108]) = false := by simpa [wLabel] using hw1
        have hfin : LabM w.heap.size (k + 1) (labUp ls (k + 1)) (wr.alloc (.cells #[.int .i64 xa, .string (bs xw), .string (bs xt)] 71)) := by
          rw [HU.out]
          have : (fun y => if xw = wLabel ∧ y = xt then (k : Int) else labUp ls k y) = labUp ls k := by funext y; simp [hw1]
          rw [this]; exact hlx.mono (by omega)
        have HF := Lib.hid hfin
        clear hfin hlx hw1
        go_wp2
        go_roundw
        case rel => exact ⟨k + 1, by omega, by go_num, HF.out, hbxa⟩
        case measure => simp [intOf]; omega
    · obtain rfl : k = ls.length := by omega
      clear hk hlt
      go_wp2_with (go_at_call 19; refine vm_operations.mono ?_)
      rintro e w2 ⟨rfl, rfl⟩
      have h2 := h.kept (hbx.alloc (o := .map (opsE 21) 21) hbx.size)
      have hfin : RunInv B b ev av iv most F W ls steps res w.heap.size wr.heap.size w 0 0 (wr.alloc (.map (opsE 21) 21)) :=
        ⟨fuel, s, F, hr, h2, SFrame.of_below (hbx.alloc hbx.size _), (hlab.below ((Below.refl _ _).alloc (Nat.le_refl _) _)).mono (by omega), fun e => by have := (h.foot _ e).2; omega, heap_alloc_new wr _, fun e => by have := (h.foot _ e).2; have := hbx.size; omega, by omega⟩
      have HF := Lib.hid hfin
      have hgw : w.heap.size ≤ wr.heap.size := hbx.size
      clear hfin hlab h2 hbx
      go_wp2
      go_step3
      go_wp2
      go_loopw [11, 13] (fun n i wx => ∃ (k : Nat) (n' : Int), i = .int .i64 k ∧ n = .int .i64 n' ∧ 0 ≤ n' ∧ n' ≤ steps ∧ k ≤ ls.length ∧ RunInv B b ev av iv most F W ls steps res w.heap.size wr.heap.size w k n' wx) (fun n i wx => (steps - intOf n).toNat)
      case atStart => exact ⟨0, 0, rfl, rfl, Int.le_refl _, by omega, by omega, HF.out⟩
      case round =>
        obtain ⟨k, n', rfl, rfl, hn0, hn1, hkl, f, s1, F1, hrun, hM, hS, hlab, hFM, hO, hFO, hzn⟩ := hrel
        obtain ⟨f, rfl⟩ : ∃ g, f = g + 1 := by
          cases f with
          | zero => simp [runF'] at hrun
          | succ g => exact ⟨g, rfl⟩
        by_cases hlt : k < ls.length
        · simp only [runF', List.getElem?_eq_getElem hlt] at hrun
          obtain ⟨g, o, rfl, hgB2, hcs⟩ := hA (by omega)
          obtain ⟨l0, l1, l2⟩ := lineCells_at ls k hlt
          have hgx : wr.heap[g]? = w.heap[g]? := hS.block g (by omega) (fun e => by have := (h.foot g e).1; omega)
          have c1 : wr.cell? ⟨g, o + k * 3 + 1, none⟩ = some (.string (bs ls[k].word)) := (World.cell?_of_block hgx).trans (hcs _ _ l1)
          have c2 : wr.cell? ⟨g, o + k * 3 + 2, none⟩ = some (.string (bs ls[k].text)) := (World.cell?_of_block hgx).trans (hcs _ _ l2)
          have htl := htx ls[k] (List.getElem_mem hlt)
          generalize ls[k] = x at *
          obtain ⟨xa, xw, xt⟩ := x
          simp only at c1 c2 htl hrun
          clear l0 l1 l2
          by_cases hq : n' + 1 > steps
          · rw [if_pos hq] at hrun
            injection hrun with hrun
            subst hrun
            go_wp2
            rw [Exit.noGoto_ret]
            go_ret2
            exact ⟨rfl, F1, hS, fun s' h => by cases h⟩
          · rw [if_neg hq] at hrun
            cases hop : opF xw with
            | none => rw [hop] at hrun; cases hrun
            | some op =>
              simp only [hop] at hrun
              cases hst : stepF W most op xt { s1 with lb := [] } with
              | none => simp only [hst] at hrun; cases hrun
              | some r =>
                simp only [hst] at hrun
                obtain ⟨hM2, hS2⟩ := hM.go []
                obtain ⟨hlb, hlbf⟩ := hM.label
                have hb0 : bs [] = ⟨#[]⟩ := rfl
                rw [hb0] at hM2 hS2
                have HR := Lib.hid hrun
                have HST := Lib.hid hst
                clear hrun hst
                go_wp2
                have hne : b ≠ g := by have := h.base.1; omega
                have e1 : (wr.setCell ⟨b, 7, none⟩ (.string ⟨#[]⟩)).cell? ⟨g, o + k * 3 + 1, none⟩ = some (.string (bs xw)) := (World.cell?_of_block (Below.heap_setCell _ _ _ _ (Ne.symm hne))).trans c1
                have e2 : (wr.setCell ⟨b, 7, none⟩ (.string ⟨#[]⟩)).cell? ⟨g, o + k * 3 + 2, none⟩ = some (.string (bs xt)) := (World.cell?_of_block (Below.heap_setCell _ _ _ _ (Ne.symm hne))).trans c2
                have hF1b : F1 b := hM.foot_b
                have hO2 := (Below.heap_setCell wr ⟨b, 7, none⟩ (.string ⟨#[]⟩) _ (fun e : _ = b => hFO (by rw [e]; exact hF1b))).trans hO
                have hlab2 := hlab.kept (Below.heap_setCell wr ⟨b, 7, none⟩ (.string ⟨#[]⟩) _ (fun e : _ = b => hFM (by rw [e]; exact hF1b)))
                generalize wr.setCell ⟨b, 7, none⟩ (.string ⟨#[]⟩) = w3 at *
                have hlk := (ops_lookup (W := w3.drew) hO2 xw op hop).1
                clear c1 c2 hO hlab hlb hlbf
                go_still_tail 13, (by kernel_rfl)
                change wpList _ _ _ _ _ w3.drew
                have e1d : w3.drew.cell? ⟨g, o + k * 3 + 1, none⟩ = some (.string (bs xw)) := e1
                have e2d : w3.drew.cell? ⟨g, o + k * 3 + 2, none⟩ = some (.string (bs xt)) := e2
                have hM3 := hM2.kept (Below.refl w3.heap.size w3).drew
                have hS3 := (hS.trans hS2).trans (SFrame.of_below (Below.refl w3.heap.size w3).drew)
                have hlab3 := hlab2.kept (w' := w3.drew) rfl
                have hO3 : w3.drew.heap[_]? = _ := hO2
                have hlk3 := (ops_lookup hO3 xw op hop).1
                generalize w3.drew = w4 at *
                clear e1 e2 hlk hlab2 hO2 hM2 hS2
                have hcf := ops_enter hop #[.pointer (some ⟨b, 0, none⟩), .string (bs xt)] w4
                have hbw := hS3.below (fun k hk => (h.foot k hk).1) (by omega)
                have hgw4 := hg.below hbw hgB
                have hWw4 := hW.below hbw
                have hstep := op_step HST.out hM3 hgw4 hgB hWw4 hmost (by show outSz s1.out ≤ 40000000; omega)
                have hgood := hM3.good
                have hall : ∀ s' : MSt, r = .ok s' → outSz s'.out ≤ outSz s1.out + 2 := fun s' e => (stepF_all (HST.out.trans (congrArg some e))).2 hgood.1 hgood.2
                clear hM3
                cases r with
                | error m =>
                  have hrr : res = (n' + 1, .error m) := by
                    have := HR.out
                    injection this with this
                    exact this.symm
                  subst hrr
                  go_wp2_with (refine hstep.mono ?_)
                  rintro e w5 ⟨rfl, F5, hS5, _⟩
                  have hrv : resS (.error m : SRes) = .iface 62 (.agg #[.int .i64 m]) := rfl
                  rw [hrv]
                  go_wp2
                  rw [Exit.noGoto_ret]
                  go_ret2
                  exact ⟨rfl, F5, hS3.trans hS5, fun s' h => by cases h⟩
                | ok s2 =>
                  go_wp2_with (refine hstep.mono ?_)
                  rintro e w5 ⟨rfl, F5, hS5, hM5⟩
                  have hrv : resS (.ok s2 : SRes) = .nilIface := rfl
                  rw [hrv]
                  have hM6 := hM5 s2 rfl
                  have hz2 : (outSz s2.out : Int) ≤ 2 * (n' + 1) := by
                    have hz3 : outSz s2.out ≤ outSz s1.out + 2 := hall s2 rfl
                    omega
                  clear hall hgood
                  obtain ⟨hlb, hlbf⟩ := hM6.label
                  have hMl := hlab3.lt
                  have hOl := (Array.getElem?_eq_some_iff.1 hO3).1
                  have hlab5 := hlab3.kept (hS5.block _ hMl hFM)
                  have hO5 := (hS5.block _ hOl hFO).trans hO3
                  have hFM5 : ¬ F5 w.heap.size := fun e => by
                    rcases hS5.fresh _ e with h1 | h1
                    · exact hFM h1
                    · omega
                  have hFO5 := fun e => (hS5.fresh _ e).elim hFO (fun h1 => by omega)
                  have hS6 := hS3.trans hS5
                  by_cases hlb0 : s2.lb = []
                  · have hq2 : (s2.lb == ([] : List UInt8)) = true := by simp [hlb0]
                    have hrun2 : runF' W most ls steps f (k + 1) (n' + 1) s2 = some res := by have := HR.out; rw [if_pos hlb0] at this; exact this
                    have hfin : RunInv B b ev av iv most F W ls steps res w.heap.size _ w (k + 1) (n' + 1) w5 := ⟨f, s2, F5, hrun2, hM6, hS6, hlab5, hFM5, hO5, hFO5, hz2⟩
                    have HF := Lib.hid hfin
                    clear hfin hlab5 hO5 hFM5 hFO5 hlb0 hM5 hlab3
                    go_wp2
                    go_roundw
                    case rel => exact ⟨k + 1, n' + 1, by go_num, by go_num, by omega, by omega, by omega, HF.out⟩
                    case measure => simp [intOf]; omega
                  · have hq2 : (s2.lb == ([] : List UInt8)) = false := by simp [hlb0]
                    have hlbl : s2.lb.length ≤ maxLen := by
                      unfold maxLen
                      rcases stepF_lb HST.out with h1 | h1
                      · rw [h1]; simp
                      · rw [h1]; omega
                    have hget := hlab5.get s2.lb hlbl
                    have hup := labUp_bounds ls s2.lb ls.length
                    have hrun2 : runF' W most ls steps f (labAt ls s2.lb) (n' + 1) s2 = some res := by have := HR.out; rw [if_neg hlb0] at this; exact this
                    have hfin : RunInv B b ev av iv most F W ls steps res w.heap.size _ w (labAt ls s2.lb) (n' + 1) w5 := ⟨f, s2, F5, hrun2, hM6, hS6, hlab5, hFM5, hO5, hFO5, hz2⟩
                    have HF := Lib.hid hfin
                    unfold labAt at HF
                    generalize labUp ls ls.length s2.lb = v at *
                    obtain ⟨j, rfl⟩ := Int.eq_ofNat_of_zero_le hup.1
                    clear hfin hlab5 hO5 hFM5 hFO5 hlb0 hM5 hlab3 hrun2
                    go_wp2
                    go_roundw
                    case rel => exact ⟨j, n' + 1, by first | rfl | go_num | (congr 1; omega), by go_num, by omega, by omega, by omega, by simpa using HF.out⟩
                    case measure => simp [intOf]; omega
        · have hres : res = (n', .ok s1) := by
            simp only [runF', List.getElem?_eq_none (show ls.length ≤ k by omega)] at hrun
            injection hrun with hrun
            exact hrun.symm
          subst hres
          clear hrun
          go_wp2
          rw [Exit.noGoto_ret]
          go_ret2
          exact ⟨rfl, F1, hS, fun s' h => by injection h with h; subst h; exact ⟨hM, by omega⟩⟩
end
end Go.Proofs.YtejpkjcjoengbaaGreatDoor
