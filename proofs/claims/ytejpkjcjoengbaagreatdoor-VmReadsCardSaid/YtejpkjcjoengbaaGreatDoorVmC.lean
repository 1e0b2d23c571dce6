/-
  package vm: the operations on the stack alone, by walk.
-/
import Derived.Test.YtejpkjcjoengbaaGreatDoorVmB
import Derived.Deep.RegionHeld3
import Derived.StillTactics
import Derived.Laws.Pointers
set_option linter.unusedVariables false
set_option linter.unusedSimpArgs false
namespace Go.Proofs.YtejpkjcjoengbaaGreatDoor
open Go.RowKit

/-- What an operation comes to: another stack, or an error's number. -/
abbrev ORes := Except Int (List (List UInt8))
def resV (r : ORes) : Value := match r with | .ok _ => .nilIface | .error n => faultV n
def OpState (r : ORes) (B b : Nat) (ev av iv : Value) (most : Int) (sv : Value) (ov : Value) (bytes : Int) (lb' : List UInt8) (w w' : World) : Prop :=
  match r with
  | .ok st' => ∃ sv', Mac B b ev av iv most sv' st' ov bytes lb' w' ∧ Moved b sv sv' w w'
  | .error _ => ∃ sv', Moved b sv sv' w w'
def OpPost (r : ORes) (B b : Nat) (ev av iv : Value) (most : Int) (sv : Value) (ov : Value) (bytes : Int) (lb' : List UInt8) (w : World) (e : Ending) (w' : World) : Prop :=
  e = .returned (resV r) ∧ OpState r B b ev av iv most sv ov bytes lb' w w'
def putR (st xs : List (List UInt8)) : ORes := match putF st xs with | some st' => .ok st' | none => .error 42
def top1 (st : List (List UInt8)) : Option (List (List UInt8) × List UInt8) := match st.reverse with | x :: r => some (r.reverse, x) | [] => none
def top2 (st : List (List UInt8)) : Option (List (List UInt8) × List UInt8 × List UInt8) := match st.reverse with | y :: x :: r => some (r.reverse, x, y) | _ => none
theorem top1_snoc (s : List (List UInt8)) (x : List UInt8) : top1 (s ++ [x]) = some (s, x) := by simp [top1]
theorem top2_snoc (s : List (List UInt8)) (x y : List UInt8) : top2 (s ++ [x, y]) = some (s, x, y) := by simp [top2]
theorem top1_cases (st : List (List UInt8)) : (top1 st = none ∧ st = []) ∨ ∃ s x, st = s ++ [x] := by
  rcases List.eq_nil_or_concat st with h | ⟨s, x, h⟩
  · subst h; exact .inl ⟨rfl, rfl⟩
  · exact .inr ⟨s, x, by simpa using h⟩
theorem top2_cases (st : List (List UInt8)) : (top2 st = none ∧ st.length < 2) ∨ ∃ s x y, st = s ++ [x, y] := by
  rcases List.eq_nil_or_concat st with h | ⟨s, y, h⟩
  · subst h; exact .inl ⟨rfl, by simp⟩
  · rcases List.eq_nil_or_concat s with h2 | ⟨s2, x, h2⟩
    · subst h2; subst h; exact .inl ⟨rfl, by simp⟩
    · subst h2; subst h; exact .inr ⟨s2, x, y, by simp⟩

theorem OpPost.of_put {B b : Nat} {ev av iv : Value} {most : Int} {sv sv0 : Value} {st xs : List (List UInt8)} {ov : Value} {bytes : Int} {lb : List UInt8} {w w0 w' : World} {e : Ending}
    (h : PutPost B b ev av iv most sv st xs ov bytes lb w e w') (hm : Moved b sv0 sv w0 w) : OpPost (putR st xs) B b ev av iv most sv0 ov bytes lb w0 e w' := by
  unfold PutPost at h
  unfold OpPost OpState putR
  cases hp : putF st xs with
  | none => rw [hp] at h; obtain ⟨h1, sv', h2⟩ := h; exact ⟨h1, sv', hm.trans h2⟩
  | some st' => rw [hp] at h; obtain ⟨h1, sv', h2, h3⟩ := h; exact ⟨h1, sv', h2, hm.trans h3⟩
theorem OpState.cell {r : ORes} {B b g j : Nat} {ev av iv : Value} {most : Int} {sv : Value} {ov : Value} {bytes : Int} {lb : List UInt8} {w w' : World}
    (h : OpState r B b ev av iv most sv ov bytes lb w w') (hg : g < w.heap.size) (hb : g ≠ b) (hs : sv.ownBlock ≠ some g) : w'.cell? ⟨g, j, none⟩ = w.cell? ⟨g, j, none⟩ := by
  have : ∃ sv', Moved b sv sv' w w' := by
    unfold OpState at h
    cases r with
    | error n => exact h
    | ok st' => obtain ⟨sv', _, h3⟩ := h; exact ⟨sv', h3⟩
  obtain ⟨sv', hm⟩ := this
  exact World.cell?_of_block (hm.block g hg hb hs)
theorem OpPost.moved {r : ORes} {B b : Nat} {ev av iv : Value} {most : Int} {sv sv0 : Value} {ov : Value} {bytes : Int} {lb : List UInt8} {w w0 w' : World}
    (h : OpState r B b ev av iv most sv ov bytes lb w w') (hm : Moved b sv0 sv w0 w) : OpState r B b ev av iv most sv0 ov bytes lb w0 w' := by
  unfold OpState at *
  cases r with
  | error n => obtain ⟨sv', h2⟩ := h; exact ⟨sv', hm.trans h2⟩
  | ok st' => obtain ⟨sv', h2, h3⟩ := h; exact ⟨sv', h2, hm.trans h3⟩

/-- put of texts that have just been laid into a row. -/
theorem vm_put_new {B b : Nat} {ev av iv : Value} {most : Int} {sv : Value} {ov : Value} {bytes : Int} {lb : List UInt8} {w W : World} {st : List (List UInt8)} (xs : List (List UInt8)) (n c : Nat) (h : Mac B b ev av iv most sv st ov bytes lb w) (hxl : xs.length ≤ 1000) (hst : st.length ≤ 1000)
    (hb : Below w.heap.size w W) (hk : W.heap[w.heap.size]? = some (.cells (strCells xs).toArray 9 (0, 0))) (hn : n = xs.length) :
    Calls Tryz.prog 34 #[.pointer (some ⟨b, 0, none⟩), .slice (some ⟨w.heap.size, 0, none⟩) n c] W (OpPost (putR st xs) B b ev av iv most sv ov bytes lb w) := by
  have hlt := (Array.getElem?_eq_some_iff.1 hk).1
  refine (vm_put xs w.heap.size c (h.kept hb) hlt (by have := h.lt; omega) (fun e => by have := h.stk.lt _ e; omega) (fun j x hx => ?_) hxl hst n hn).mono fun e w' hp => OpPost.of_put hp (Moved.of_below hb)
  have := cell_at hk j (.string (bs x)) (by simp [strCells, hx])
  rw [add_plain] at this
  exact this

def dupR (st : List (List UInt8)) : ORes := match top1 st with | none => .error 40 | some (s, x) => putR s [x, x]

set_option maxHeartbeats 1000000 in
set_option maxRecDepth 100000 in
theorem vm_dup {B b : Nat} {ev av iv : Value} {most : Int} {sv : Value} {ov : Value} {bytes : Int} {lb : List UInt8} {w : World} {st : List (List UInt8)} (h : Mac B b ev av iv most sv st ov bytes lb w) (hst : st.length ≤ 1000) (s : ByteArray) :
    Calls Tryz.prog 43 #[.pointer (some ⟨b, 0, none⟩), .string s] w (OpPost (dupR st) B b ev av iv most sv ov bytes lb w) := by
  rcases top1_cases st with ⟨h1, rfl⟩ | ⟨s1, x, rfl⟩
  · go_enter Tryz.func43, Tryz.ntmps43
    go_wp2_with (go_at_call 77; refine (vm_take_few h 1 (by simp) (by decide)).mono ?_; rintro e w1 ⟨rfl, rfl⟩)
    go_ret
    exact ⟨rfl, _, Moved.refl _ _ _⟩
  · go_enter Tryz.func43, Tryz.ntmps43
    go_wp2_with (go_at_call 77; refine (vm_take s1 [x] h (by simp) hst 1 rfl).mono ?_)
    rintro e w1 ⟨g, c, sv', rfl, ⟨hg, hg1, hg2, hg3⟩, hc, hm, hmv⟩
    have c0 := hc 0 x rfl
    have hs1 : s1.length ≤ 1000 := by simp at hst; omega
    go_wp2
    go_region_held3 (fun w' => w'.cell? ⟨g, 0, none⟩ = some (.string (bs x))) (first | go_keep | exact (OpState.cell hq hg1 hg2 hg3).trans c0) ((go_at_call 34; go_loud (refine (vm_put_new (w := w1) [x, x] 2 2 hm (by simp) hs1 (((Below.refl _ _).alloc (Nat.le_refl _) _).drew) (heap_alloc_new w1 _) rfl).mono ?_); rintro e w2 ⟨rfl, hq⟩))
    go_wp2
    go_ret
    have hr : dupR (s1 ++ [x]) = putR s1 [x, x] := by simp [dupR, top1_snoc]
    rw [hr]
    exact ⟨rfl, OpPost.moved hq hmv⟩
end Go.Proofs.YtejpkjcjoengbaaGreatDoor
