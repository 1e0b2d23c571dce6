/-
  package vm: the simple operations, by walk.
-/
import Derived.Test.YtejpkjcjoengbaaGreatDoorVmC
import Derived.Lib.SmallJoins
set_option linter.unusedVariables false
set_option linter.unusedSimpArgs false
namespace Go.Proofs.YtejpkjcjoengbaaGreatDoor
open Go.RowKit

section
variable {B b : Nat} {ev av iv : Value} {most : Int} {sv : Value} {ov : Value} {bytes : Int} {lb : List UInt8} {w : World} {st : List (List UInt8)}

theorem vm_fail (v s : Value) (w : World) : Calls Tryz.prog 54 #[v, s] w (fun e w' => e = .returned (faultV 43) ∧ w = w') := by
  go_enter Tryz.func54, Tryz.ntmps54
  go_wp2
  go_ret
  exact ⟨rfl, rfl⟩

theorem vm_nothing (v s : Value) (w : World) : Calls Tryz.prog 35 #[v, s] w (fun e w' => e = .returned .nilIface ∧ w = w') := by
  go_enter Tryz.func35, Tryz.ntmps35
  go_wp2
  go_ret
  exact ⟨rfl, rfl⟩

theorem vm_jump (h : Mac B b ev av iv most sv st ov bytes lb w) (s : List UInt8) :
    Calls Tryz.prog 36 #[.pointer (some ⟨b, 0, none⟩), .string (bs s)] w (OpPost (.ok st) B b ev av iv most sv ov bytes s w) := by
  have c7 := h.cell 7
  simp at c7
  have f7 := h.frozen 7
  go_enter Tryz.func36, Tryz.ntmps36
  go_wp2
  go_ret
  exact ⟨rfl, sv, (h.go s).1, (h.go s).2⟩

theorem vm_push (h : Mac B b ev av iv most sv st ov bytes lb w) (hst : st.length ≤ 1000) (s : List UInt8) :
    Calls Tryz.prog 33 #[.pointer (some ⟨b, 0, none⟩), .string (bs s)] w (OpPost (putR st [s]) B b ev av iv most sv ov bytes lb w) := by
  go_enter Tryz.func33, Tryz.ntmps33
  go_wp2_with (go_at_call 34; go_loud (refine (vm_put_new (w := w) [s] 1 1 h (by simp) hst (((Below.refl _ _).alloc (Nat.le_refl _) _)) (heap_alloc_new w _) rfl).mono ?_); rintro e w2 ⟨rfl, hq⟩)
  go_ret
  exact ⟨rfl, hq⟩

/-- choose: the stack, and the label at which it goes on. -/
def chooseR (st : List (List UInt8)) : ORes := match top1 st with | none => .error 40 | some (s, _) => .ok s
def chooseLb (st : List (List UInt8)) (s lb : List UInt8) : List UInt8 := match top1 st with | none => lb | some (_, x) => if x = [] then lb else s

set_option maxHeartbeats 1000000 in
set_option maxRecDepth 100000 in
theorem vm_choose (h : Mac B b ev av iv most sv st ov bytes lb w) (hst : st.length ≤ 1000) (s : List UInt8) :
    Calls Tryz.prog 37 #[.pointer (some ⟨b, 0, none⟩), .string (bs s)] w (OpPost (chooseR st) B b ev av iv most sv ov bytes (chooseLb st s lb) w) := by
  rcases top1_cases st with ⟨h1, rfl⟩ | ⟨s1, x, rfl⟩
  · go_enter Tryz.func37, Tryz.ntmps37
    go_wp2_with (go_at_call 77; refine (vm_take_few h 1 (by simp) (by decide)).mono ?_; rintro e w1 ⟨rfl, rfl⟩)
    go_ret
    exact ⟨rfl, _, Moved.refl _ _ _⟩
  · have hr : chooseR (s1 ++ [x]) = .ok s1 := by simp [chooseR, top1_snoc]
    have hr2 : chooseLb (s1 ++ [x]) s lb = if x = [] then lb else s := by simp [chooseLb, top1_snoc]
    rw [hr, hr2]
    generalize hl : (if x = [] then lb else s) = lx
    go_enter Tryz.func37, Tryz.ntmps37
    go_wp2_with (go_at_call 77; refine (vm_take s1 [x] h (by simp) hst 1 rfl).mono ?_)
    rintro e w1 ⟨g, c, sv', rfl, ⟨hg, hg1, hg2, hg3⟩, hc, hm, hmv⟩
    have c7 := hm.cell 7
    simp at c7
    have f7 := hm.frozen 7
    cases x with
    | nil =>
      simp at hl
      subst hl
      have c0 := hc 0 _ rfl
      go_wp2
      go_ret
      exact ⟨rfl, sv', hm, hmv⟩
    | cons d r =>
      simp at hl
      subst hl
      have c0 := hc 0 _ rfl
      go_wp2
      go_ret
      exact ⟨rfl, sv', (hm.go s).1, hmv.trans (hm.go s).2⟩

def dropR (st : List (List UInt8)) : ORes := match top1 st with | none => .error 40 | some (s, _) => .ok s
theorem vm_drop (h : Mac B b ev av iv most sv st ov bytes lb w) (hst : st.length ≤ 1000) (s : ByteArray) :
    Calls Tryz.prog 45 #[.pointer (some ⟨b, 0, none⟩), .string s] w (OpPost (dropR st) B b ev av iv most sv ov bytes lb w) := by
  rcases top1_cases st with ⟨h1, rfl⟩ | ⟨s1, x, rfl⟩
  · go_enter Tryz.func45, Tryz.ntmps45
    go_wp2_with (go_at_call 77; refine (vm_take_few h 1 (by simp) (by decide)).mono ?_; rintro e w1 ⟨rfl, rfl⟩)
    go_ret
    exact ⟨rfl, _, Moved.refl _ _ _⟩
  · go_enter Tryz.func45, Tryz.ntmps45
    go_wp2_with (go_at_call 77; refine (vm_take s1 [x] h (by simp) hst 1 rfl).mono ?_)
    rintro e w1 ⟨g, c, sv', rfl, ⟨hg, hg1, hg2, hg3⟩, hc, hm, hmv⟩
    go_wp2
    go_ret
    have hr : dropR (s1 ++ [x]) = .ok s1 := by simp [dropR, top1_snoc]
    rw [hr]
    exact ⟨rfl, sv', hm, hmv⟩

def swapR (st : List (List UInt8)) : ORes := match top2 st with | none => .error 40 | some (s, x, y) => putR s [y, x]
set_option maxHeartbeats 1000000 in
set_option maxRecDepth 100000 in
theorem vm_swap (h : Mac B b ev av iv most sv st ov bytes lb w) (hst : st.length ≤ 1000) (s : ByteArray) :
    Calls Tryz.prog 44 #[.pointer (some ⟨b, 0, none⟩), .string s] w (OpPost (swapR st) B b ev av iv most sv ov bytes lb w) := by
  rcases top2_cases st with ⟨h1, h2⟩ | ⟨s1, x, y, rfl⟩
  · have hr : swapR st = .error 40 := by simp [swapR, h1]
    rw [hr]
    go_enter Tryz.func44, Tryz.ntmps44
    go_wp2_with (go_at_call 77; refine (vm_take_few h 2 (by omega) (by decide)).mono ?_; rintro e w1 ⟨rfl, rfl⟩)
    go_ret
    exact ⟨rfl, _, Moved.refl _ _ _⟩
  · go_enter Tryz.func44, Tryz.ntmps44
    go_wp2_with (go_at_call 77; refine (vm_take s1 [x, y] h (by simp) hst 2 rfl).mono ?_)
    rintro e w1 ⟨g, c, sv', rfl, ⟨hg, hg1, hg2, hg3⟩, hc, hm, hmv⟩
    have c0 := hc 0 x rfl
    have c1 := hc 1 y rfl
    have hs1 : s1.length ≤ 1000 := by simp at hst; omega
    go_wp2
    go_region_held3 (fun w' => w'.cell? ⟨g, 0, none⟩ = some (.string (bs x)) ∧ w'.cell? ⟨g, 1, none⟩ = some (.string (bs y))) (first | go_keep | exact ⟨(OpState.cell hq hg1 hg2 hg3).trans c0, (OpState.cell hq hg1 hg2 hg3).trans c1⟩) ((go_at_call 34; go_loud (refine (vm_put_new (w := w1) [y, x] 2 2 hm (by simp) hs1 (((Below.refl _ _).alloc (Nat.le_refl _) _).drew) (heap_alloc_new w1 _) rfl).mono ?_); rintro e w2 ⟨rfl, hq⟩))
    go_wp2
    go_ret
    have hr : swapR (s1 ++ [x, y]) = putR s1 [y, x] := by simp [swapR, top2_snoc]
    rw [hr]
    exact ⟨rfl, OpPost.moved hq hmv⟩
end
end Go.Proofs.YtejpkjcjoengbaaGreatDoor
