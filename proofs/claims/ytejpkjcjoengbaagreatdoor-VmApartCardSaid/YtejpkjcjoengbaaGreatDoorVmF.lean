/-
  package vm: the operations that make one text of two, by walk.
-/
import Derived.Test.YtejpkjcjoengbaaGreatDoorVmB
import Derived.Deep.RegionHeld3
import Derived.StillTactics
import Derived.Laws.Pointers
import Derived.Lib.SmallJoins
import Derived.Lib.AppendIntMem
import Derived.Lib.AtoiBound
import Derived.Lib.AtoiTie
import Derived.Lib.ItoaLen
import Derived.MapKept
set_option linter.unusedVariables false
set_option linter.unusedSimpArgs false
namespace Go.Proofs.YtejpkjcjoengbaaGreatDoor
open Go.RowKit

/-- What an operation comes to: another stack, or an error's number. -/
abbrev ORes := Except Int (List (List UInt8))
def resV (r : ORes) : Value := match r with | .ok _ => .nilIface | .error n => faultV n
def OpState (r : ORes) (B b : Nat) (ev av iv : Value) (most : Int) (sv : Value) (ov : Value) (bytes : Int) (lb' : List UInt8) (w w' : World) : Prop :=
  match r with
  | .ok st' => ∃ sv', Mac B b ev av iv most sv' st' ov bytes lb' w' ∧ Moved b sv sv' w w'
  | .error _ => ∃ sv', Moved b sv sv' w w'
def OpPost (r : ORes) (B b : Nat) (ev av iv : Value) (most : Int) (sv : Value) (ov : Value) (bytes : Int) (lb' : List UInt8) (w : World) (e : Ending) (w' : World) : Prop :=
  e = .returned (resV r) ∧ OpState r B b ev av iv most sv ov bytes lb' w w'
def putR (st xs : List (List UInt8)) : ORes := match putF st xs with | some st' => .ok st' | none => .error 42
def top1 (st : List (List UInt8)) : Option (List (List UInt8) × List UInt8) := match st.reverse with | x :: r => some (r.reverse, x) | [] => none
def top2 (st : List (List UInt8)) : Option (List (List UInt8) × List UInt8 × List UInt8) := match st.reverse with | y :: x :: r => some (r.reverse, x, y) | _ => none
theorem top1_snoc (s : List (List UInt8)) (x : List UInt8) : top1 (s ++ [x]) = some (s, x) := by simp [top1]
theorem top2_snoc (s : List (List UInt8)) (x y : List UInt8) : top2 (s ++ [x, y]) = some (s, x, y) := by simp [top2]
theorem top1_cases (st : List (List UInt8)) : (top1 st = none ∧ st = []) ∨ ∃ s x, st = s ++ [x] := by
  rcases List.eq_nil_or_concat st with h | ⟨s, x, h⟩
  · subst h; exact .inl ⟨rfl, rfl⟩
  · exact .inr ⟨s, x, by simpa using h⟩
theorem top2_cases (st : List (List UInt8)) : (top2 st = none ∧ st.length < 2) ∨ ∃ s x y, st = s ++ [x, y] := by
  rcases List.eq_nil_or_concat st with h | ⟨s, y, h⟩
  · subst h; exact .inl ⟨rfl, by simp⟩
  · rcases List.eq_nil_or_concat s with h2 | ⟨s2, x, h2⟩
    · subst h2; subst h; exact .inl ⟨rfl, by simp⟩
    · subst h2; subst h; exact .inr ⟨s2, x, y, by simp⟩

theorem OpPost.of_put {B b : Nat} {ev av iv : Value} {most : Int} {sv sv0 : Value} {st xs : List (List UInt8)} {ov : Value} {bytes : Int} {lb : List UInt8} {w w0 w' : World} {e : Ending}
    (h : PutPost B b ev av iv most sv st xs ov bytes lb w e w') (hm : Moved b sv0 sv w0 w) : OpPost (putR st xs) B b ev av iv most sv0 ov bytes lb w0 e w' := by
  unfold PutPost at h
  unfold OpPost OpState putR
  cases hp : putF st xs with
  | none => rw [hp] at h; obtain ⟨h1, sv', h2⟩ := h; exact ⟨h1, sv', hm.trans h2⟩
  | some st' => rw [hp] at h; obtain ⟨h1, sv', h2, h3⟩ := h; exact ⟨h1, sv', h2, hm.trans h3⟩
theorem OpState.cell {r : ORes} {B b g j : Nat} {ev av iv : Value} {most : Int} {sv : Value} {ov : Value} {bytes : Int} {lb : List UInt8} {w w' : World}
    (h : OpState r B b ev av iv most sv ov bytes lb w w') (hg : g < w.heap.size) (hb : g ≠ b) (hs : sv.ownBlock ≠ some g) : w'.cell? ⟨g, j, none⟩ = w.cell? ⟨g, j, none⟩ := by
  have : ∃ sv', Moved b sv sv' w w' := by
    unfold OpState at h
    cases r with
    | error n => exact h
    | ok st' => obtain ⟨sv', _, h3⟩ := h; exact ⟨sv', h3⟩
  obtain ⟨sv', hm⟩ := this
  exact World.cell?_of_block (hm.block g hg hb hs)
theorem OpPost.moved {r : ORes} {B b : Nat} {ev av iv : Value} {most : Int} {sv sv0 : Value} {ov : Value} {bytes : Int} {lb : List UInt8} {w w0 w' : World}
    (h : OpState r B b ev av iv most sv ov bytes lb w w') (hm : Moved b sv0 sv w0 w) : OpState r B b ev av iv most sv0 ov bytes lb w0 w' := by
  unfold OpState at *
  cases r with
  | error n => obtain ⟨sv', h2⟩ := h; exact ⟨sv', hm.trans h2⟩
  | ok st' => obtain ⟨sv', h2, h3⟩ := h; exact ⟨sv', h2, hm.trans h3⟩

/-- put of texts that have just been laid into a row. -/
theorem vm_put_new {B b : Nat} {ev av iv : Value} {most : Int} {sv : Value} {ov : Value} {bytes : Int} {lb : List UInt8} {w W : World} {st : List (List UInt8)} (xs : List (List UInt8)) (n c : Nat) (h : Mac B b ev av iv most sv st ov bytes lb w) (hxl : xs.length ≤ 1000) (hst : st.length ≤ 1000)
    (hb : Below w.heap.size w W) (hk : W.heap[w.heap.size]? = some (.cells (strCells xs).toArray 9 (0, 0))) (hn : n = xs.length) :
    Calls Tryz.prog 34 #[.pointer (some ⟨b, 0, none⟩), .slice (some ⟨w.heap.size, 0, none⟩) n c] W (OpPost (putR st xs) B b ev av iv most sv ov bytes lb w) := by
  have hlt := (Array.getElem?_eq_some_iff.1 hk).1
  refine (vm_put xs w.heap.size c (h.kept hb) hlt (by have := h.lt; omega) (fun e => by have := h.stk.lt _ e; omega) (fun j x hx => ?_) hxl hst n hn).mono fun e w' hp => OpPost.of_put hp (Moved.of_below hb)
  have := cell_at hk j (.string (bs x)) (by simp [strCells, hx])
  rw [add_plain] at this
  exact this

def dupR (st : List (List UInt8)) : ORes := match top1 st with | none => .error 40 | some (s, x) => putR s [x, x]

set_option maxHeartbeats 1000000 in
set_option maxRecDepth 100000 in
theorem vm_dup {B b : Nat} {ev av iv : Value} {most : Int} {sv : Value} {ov : Value} {bytes : Int} {lb : List UInt8} {w : World} {st : List (List UInt8)} (h : Mac B b ev av iv most sv st ov bytes lb w) (hst : st.length ≤ 1000) (s : ByteArray) :
    Calls Tryz.prog 43 #[.pointer (some ⟨b, 0, none⟩), .string s] w (OpPost (dupR st) B b ev av iv most sv ov bytes lb w) := by
  rcases top1_cases st with ⟨h1, rfl⟩ | ⟨s1, x, rfl⟩
  · go_enter Tryz.func43, Tryz.ntmps43
    go_wp2_with (go_at_call 77; refine (vm_take_few h 1 (by simp) (by decide)).mono ?_; rintro e w1 ⟨rfl, rfl⟩)
    go_ret
    exact ⟨rfl, _, Moved.refl _ _ _⟩
  · go_enter Tryz.func43, Tryz.ntmps43
    go_wp2_with (go_at_call 77; refine (vm_take s1 [x] h (by simp) hst 1 rfl).mono ?_)
    rintro e w1 ⟨g, c, sv', rfl, ⟨hg, hg1, hg2, hg3⟩, hc, hm, hmv⟩
    have c0 := hc 0 x rfl
    have hs1 : s1.length ≤ 1000 := by simp at hst; omega
    go_wp2
    go_region_held3 (fun w' => w'.cell? ⟨g, 0, none⟩ = some (.string (bs x))) (first | go_keep | exact (OpState.cell hq hg1 hg2 hg3).trans c0) ((go_at_call 34; go_loud (refine (vm_put_new (w := w1) [x, x] 2 2 hm (by simp) hs1 (((Below.refl _ _).alloc (Nat.le_refl _) _).drew) (heap_alloc_new w1 _) rfl).mono ?_); rintro e w2 ⟨rfl, hq⟩))
    go_wp2
    go_ret
    have hr : dupR (s1 ++ [x]) = putR s1 [x, x] := by simp [dupR, top1_snoc]
    rw [hr]
    exact ⟨rfl, OpPost.moved hq hmv⟩
end Go.Proofs.YtejpkjcjoengbaaGreatDoor
set_option linter.unusedVariables false
set_option linter.unusedSimpArgs false
namespace Go.Proofs.YtejpkjcjoengbaaGreatDoor
open Go.RowKit

section
variable {B b : Nat} {ev av iv : Value} {most : Int} {sv : Value} {ov : Value} {bytes : Int} {lb : List UInt8} {w : World} {st : List (List UInt8)}

theorem vm_fail (v s : Value) (w : World) : Calls Tryz.prog 54 #[v, s] w (fun e w' => e = .returned (faultV 43) ∧ w = w') := by
  go_enter Tryz.func54, Tryz.ntmps54
  go_wp2
  go_ret
  exact ⟨rfl, rfl⟩

theorem vm_nothing (v s : Value) (w : World) : Calls Tryz.prog 35 #[v, s] w (fun e w' => e = .returned .nilIface ∧ w = w') := by
  go_enter Tryz.func35, Tryz.ntmps35
  go_wp2
  go_ret
  exact ⟨rfl, rfl⟩

theorem vm_jump (h : Mac B b ev av iv most sv st ov bytes lb w) (s : List UInt8) :
    Calls Tryz.prog 36 #[.pointer (some ⟨b, 0, none⟩), .string (bs s)] w (OpPost (.ok st) B b ev av iv most sv ov bytes s w) := by
  have c7 := h.cell 7
  simp at c7
  have f7 := h.frozen 7
  go_enter Tryz.func36, Tryz.ntmps36
  go_wp2
  go_ret
  exact ⟨rfl, sv, (h.go s).1, (h.go s).2⟩

theorem vm_push (h : Mac B b ev av iv most sv st ov bytes lb w) (hst : st.length ≤ 1000) (s : List UInt8) :
    Calls Tryz.prog 33 #[.pointer (some ⟨b, 0, none⟩), .string (bs s)] w (OpPost (putR st [s]) B b ev av iv most sv ov bytes lb w) := by
  go_enter Tryz.func33, Tryz.ntmps33
  go_wp2_with (go_at_call 34; go_loud (refine (vm_put_new (w := w) [s] 1 1 h (by simp) hst (((Below.refl _ _).alloc (Nat.le_refl _) _)) (heap_alloc_new w _) rfl).mono ?_); rintro e w2 ⟨rfl, hq⟩)
  go_ret
  exact ⟨rfl, hq⟩

/-- choose: the stack, and the label at which it goes on. -/
def chooseR (st : List (List UInt8)) : ORes := match top1 st with | none => .error 40 | some (s, _) => .ok s
def chooseLb (st : List (List UInt8)) (s lb : List UInt8) : List UInt8 := match top1 st with | none => lb | some (_, x) => if x = [] then lb else s

set_option maxHeartbeats 1000000 in
set_option maxRecDepth 100000 in
theorem vm_choose (h : Mac B b ev av iv most sv st ov bytes lb w) (hst : st.length ≤ 1000) (s : List UInt8) :
    Calls Tryz.prog 37 #[.pointer (some ⟨b, 0, none⟩), .string (bs s)] w (OpPost (chooseR st) B b ev av iv most sv ov bytes (chooseLb st s lb) w) := by
  rcases top1_cases st with ⟨h1, rfl⟩ | ⟨s1, x, rfl⟩
  · go_enter Tryz.func37, Tryz.ntmps37
    go_wp2_with (go_at_call 77; refine (vm_take_few h 1 (by simp) (by decide)).mono ?_; rintro e w1 ⟨rfl, rfl⟩)
    go_ret
    exact ⟨rfl, _, Moved.refl _ _ _⟩
  · have hr : chooseR (s1 ++ [x]) = .ok s1 := by simp [chooseR, top1_snoc]
    have hr2 : chooseLb (s1 ++ [x]) s lb = if x = [] then lb else s := by simp [chooseLb, top1_snoc]
    rw [hr, hr2]
    generalize hl : (if x = [] then lb else s) = lx
    go_enter Tryz.func37, Tryz.ntmps37
    go_wp2_with (go_at_call 77; refine (vm_take s1 [x] h (by simp) hst 1 rfl).mono ?_)
    rintro e w1 ⟨g, c, sv', rfl, ⟨hg, hg1, hg2, hg3⟩, hc, hm, hmv⟩
    have c7 := hm.cell 7
    simp at c7
    have f7 := hm.frozen 7
    cases x with
    | nil =>
      simp at hl
      subst hl
      have c0 := hc 0 _ rfl
      go_wp2
      go_ret
      exact ⟨rfl, sv', hm, hmv⟩
    | cons d r =>
      simp at hl
      subst hl
      have c0 := hc 0 _ rfl
      go_wp2
      go_ret
      exact ⟨rfl, sv', (hm.go s).1, hmv.trans (hm.go s).2⟩

def dropR (st : List (List UInt8)) : ORes := match top1 st with | none => .error 40 | some (s, _) => .ok s
theorem vm_drop (h : Mac B b ev av iv most sv st ov bytes lb w) (hst : st.length ≤ 1000) (s : ByteArray) :
    Calls Tryz.prog 45 #[.pointer (some ⟨b, 0, none⟩), .string s] w (OpPost (dropR st) B b ev av iv most sv ov bytes lb w) := by
  rcases top1_cases st with ⟨h1, rfl⟩ | ⟨s1, x, rfl⟩
  · go_enter Tryz.func45, Tryz.ntmps45
    go_wp2_with (go_at_call 77; refine (vm_take_few h 1 (by simp) (by decide)).mono ?_; rintro e w1 ⟨rfl, rfl⟩)
    go_ret
    exact ⟨rfl, _, Moved.refl _ _ _⟩
  · go_enter Tryz.func45, Tryz.ntmps45
    go_wp2_with (go_at_call 77; refine (vm_take s1 [x] h (by simp) hst 1 rfl).mono ?_)
    rintro e w1 ⟨g, c, sv', rfl, ⟨hg, hg1, hg2, hg3⟩, hc, hm, hmv⟩
    go_wp2
    go_ret
    have hr : dropR (s1 ++ [x]) = .ok s1 := by simp [dropR, top1_snoc]
    rw [hr]
    exact ⟨rfl, sv', hm, hmv⟩

def swapR (st : List (List UInt8)) : ORes := match top2 st with | none => .error 40 | some (s, x, y) => putR s [y, x]
set_option maxHeartbeats 1000000 in
set_option maxRecDepth 100000 in
theorem vm_swap (h : Mac B b ev av iv most sv st ov bytes lb w) (hst : st.length ≤ 1000) (s : ByteArray) :
    Calls Tryz.prog 44 #[.pointer (some ⟨b, 0, none⟩), .string s] w (OpPost (swapR st) B b ev av iv most sv ov bytes lb w) := by
  rcases top2_cases st with ⟨h1, h2⟩ | ⟨s1, x, y, rfl⟩
  · have hr : swapR st = .error 40 := by simp [swapR, h1]
    rw [hr]
    go_enter Tryz.func44, Tryz.ntmps44
    go_wp2_with (go_at_call 77; refine (vm_take_few h 2 (by omega) (by decide)).mono ?_; rintro e w1 ⟨rfl, rfl⟩)
    go_ret
    exact ⟨rfl, _, Moved.refl _ _ _⟩
  · go_enter Tryz.func44, Tryz.ntmps44
    go_wp2_with (go_at_call 77; refine (vm_take s1 [x, y] h (by simp) hst 2 rfl).mono ?_)
    rintro e w1 ⟨g, c, sv', rfl, ⟨hg, hg1, hg2, hg3⟩, hc, hm, hmv⟩
    have c0 := hc 0 x rfl
    have c1 := hc 1 y rfl
    have hs1 : s1.length ≤ 1000 := by simp at hst; omega
    go_wp2
    go_region_held3 (fun w' => w'.cell? ⟨g, 0, none⟩ = some (.string (bs x)) ∧ w'.cell? ⟨g, 1, none⟩ = some (.string (bs y))) (first | go_keep | exact ⟨(OpState.cell hq hg1 hg2 hg3).trans c0, (OpState.cell hq hg1 hg2 hg3).trans c1⟩) ((go_at_call 34; go_loud (refine (vm_put_new (w := w1) [y, x] 2 2 hm (by simp) hs1 (((Below.refl _ _).alloc (Nat.le_refl _) _).drew) (heap_alloc_new w1 _) rfl).mono ?_); rintro e w2 ⟨rfl, hq⟩))
    go_wp2
    go_ret
    have hr : swapR (s1 ++ [x, y]) = putR s1 [y, x] := by simp [swapR, top2_snoc]
    rw [hr]
    exact ⟨rfl, OpPost.moved hq hmv⟩
end
end Go.Proofs.YtejpkjcjoengbaaGreatDoor
set_option linter.unusedVariables false
set_option linter.unusedSimpArgs false
namespace Go.Proofs.YtejpkjcjoengbaaGreatDoor
open Go.RowKit

def numF (l : List UInt8) : Int := match Lib.atoiAll l with
  | .ok v => if Lib.itoa v = l ∧ (Lib.trimPrefix l [45]).length ≤ 15 then v else 0
  | _ => 0

theorem trim_len (l : List UInt8) : l.length ≤ (Lib.trimPrefix l [45]).length + 1 := by
  cases l with
  | nil => simp
  | cons a t =>
    unfold Lib.trimPrefix
    split <;> simp

theorem numF_bound (l : List UInt8) : -1000000000000000000 < numF l ∧ numF l < 1000000000000000000 := by
  unfold numF
  cases h : Lib.atoiAll l with
  | ok v =>
    dsimp only
    split
    · rename_i hc
      have hl := trim_len l
      have hs : l.length ≤ 18 := by omega
      rw [Lib.atoiAll_short l hs] at h
      cases ha : Lib.atoi l with
      | none => rw [ha] at h; cases h
      | some n =>
        rw [ha] at h
        injection h with h1
        subst h1
        exact Lib.atoi_bound ha hs
    · omega
  | _ => dsimp only; omega

theorem itoa_call (n : Int) (h0 : -9223372036854775808 ≤ n) (h1 : n ≤ 9223372036854775807) {w : World} (hg : Glob w) :
    Calls Tryz.prog 84 #[.int .i64 n] w fun e w' => e = .returned (.string (bs (Lib.itoa n))) ∧ Below w.heap.size w w' :=
  (Tryz.strconv_Itoa n h0 h1 w hg.pow10).mono fun e w' ⟨he, k, os, hw⟩ => ⟨he, by subst hw; exact Lib.below_grow _ w (Nat.le_refl _) k os⟩

theorem atoi_call (l : List UInt8) (hl : l.length ≤ 1000000) {w : World} (hg : Glob w) :
    Calls Tryz.prog 114 #[.string (bs l)] w fun e w' => Below w.heap.size w w' ∧ ((∃ v, Lib.atoiAll l = .ok v ∧ e = .returned (.tuple #[.int .i64 v, .nilIface])) ∨ ((∀ v, Lib.atoiAll l ≠ .ok v) ∧ ∃ v N, e = .returned (.tuple #[.int .i64 v, .iface 231 (.pointer (some ⟨N, 0, none⟩))]))) := by
  have hsz : (bs l).size = l.length := bs_size l
  rcases h : Lib.atoiAll l with v | _ | _
  · refine (Tryz.strconv_Atoi_ok (bs l) (by omega) v (by simpa using h) w).mono ?_
    rintro e w' ⟨rfl, h2⟩
    refine ⟨?_, .inl ⟨v, rfl, rfl⟩⟩
    rcases h2 with rfl | ⟨t, rfl⟩
    · exact Below.refl _ _
    · exact Go.Joins.below_bytesWorld _ _ _ _ (Nat.le_refl _)
  · obtain ⟨tp, p, hv⟩ := hg.esyn
    refine (Any.strconv_Atoi_syntax_var Tryz.laysC172 (bs l) (by omega) (by simpa using h) tp p w hv).mono ?_
    rintro e w' ⟨N, rfl, _, _, hb⟩
    exact ⟨hb, .inr ⟨(by intro v hv; cases hv), _, N, rfl⟩⟩
  · obtain ⟨tp, p, hv⟩ := hg.eran
    refine (Tryz.strconv_Atoi_range_var (bs l) (by omega) (by simpa using h) tp p w hv).mono ?_
    rintro e w' ⟨N, rfl, _, _, hb⟩
    exact ⟨hb, .inr ⟨(by intro v hv; cases hv), _, N, rfl⟩⟩

theorem bs_ne {a b : List UInt8} (h : a ≠ b) : (bs a == bs b) = false := by
  cases hh : (bs a == bs b) with
  | false => rfl
  | true => exact absurd (by simpa [bs] using (congrArg (fun x : ByteArray => x.data.toList) ((Go.MapKept.bytes_beq _ _).1 hh))) h
set_option maxHeartbeats 1000000 in
theorem vm_number (l : List UInt8) (hl : l.length ≤ 1000000) {w : World} (hg : Glob w) :
    Calls Tryz.prog 78 #[.string (bs l)] w fun e w' => e = .returned (.int .i64 (numF l)) ∧ Below w.heap.size w w' := by
  go_enter Tryz.func78, Tryz.ntmps78
  go_wp2_with (go_at_call 114; refine (atoi_call l hl hg).mono ?_)
  rintro e w1 ⟨hb, ⟨v, hv, rfl⟩ | ⟨hno, v, N, rfl⟩⟩
  · have hbd := Lib.atoiAll_bounds hv
    go_wp2_with (go_at_call 84; refine (itoa_call v hbd.1 hbd.2 (hg.grown hb)).mono ?_)
    rintro e w2 ⟨rfl, hb2⟩
    by_cases h1 : Lib.itoa v = l
    · rw [h1]
      go_wp2_with (go_at_call 115; refine (Tryz.strings_TrimPrefix (bs l) (bs [45]) _).mono ?_; rintro e w3 ⟨rfl, rfl⟩)
      all_goals go_ret
      all_goals refine ⟨?_, hb.trans (hb2.mono hb.size)⟩
      · rename_i hc
        rw [show numF l = 0 by unfold numF; rw [hv]; dsimp only; rw [if_neg (by omega)]]
        rfl
      · rename_i hc
        rw [show numF l = v by unfold numF; rw [hv]; dsimp only; rw [if_pos ⟨h1, by omega⟩]]
        rfl
    · have hne : (bs (Lib.itoa v) == bs l) = false := bs_ne h1
      go_wp2
      go_ret
      refine ⟨?_, hb.trans (hb2.mono hb.size)⟩
      rw [show numF l = 0 by unfold numF; rw [hv]; dsimp only; rw [if_neg (by simp [h1])]]
      rfl
  · go_wp2
    go_ret
    refine ⟨?_, hb⟩
    have : numF l = 0 := by
      unfold numF
      cases h : Lib.atoiAll l with
      | ok v => exact absurd h (hno v)
      | _ => rfl
    rw [this]
    rfl

section
variable {B b : Nat} {ev av iv : Value} {most : Int} {sv : Value} {ov : Value} {bytes : Int} {lb : List UInt8} {w : World} {st : List (List UInt8)}

def lengthR (st : List (List UInt8)) : ORes := match top1 st with | none => .error 40 | some (s, x) => putR s [Lib.itoa (x.length : Int)]

set_option maxHeartbeats 1000000 in
set_option maxRecDepth 100000 in
theorem vm_length (hg : Glob w) (h : Mac B b ev av iv most sv st ov bytes lb w) (hB : Tryz.prog.globals.size ≤ B) (hst : st.length ≤ 1000) (hbig : ∀ x ∈ st, x.length ≤ 1000000) (s : ByteArray) :
    Calls Tryz.prog 46 #[.pointer (some ⟨b, 0, none⟩), .string s] w (OpPost (lengthR st) B b ev av iv most sv ov bytes lb w) := by
  rcases top1_cases st with ⟨h1, rfl⟩ | ⟨s1, x, rfl⟩
  · go_enter Tryz.func46, Tryz.ntmps46
    go_wp2_with (go_at_call 77; refine (vm_take_few h 1 (by simp) (by decide)).mono ?_; rintro e w1 ⟨rfl, rfl⟩)
    go_ret
    exact ⟨rfl, _, Moved.refl _ _ _⟩
  · have hr : lengthR (s1 ++ [x]) = putR s1 [Lib.itoa (x.length : Int)] := by simp [lengthR, top1_snoc]
    rw [hr]
    have hx := hbig x (by simp)
    go_enter Tryz.func46, Tryz.ntmps46
    go_wp2_with (go_at_call 77; refine (vm_take s1 [x] h (by simp) hst 1 rfl).mono ?_)
    rintro e w1 ⟨g, c, sv', rfl, ⟨hg0, hg1, hg2, hg3⟩, hc, hm, hmv⟩
    have c0 := hc 0 _ rfl
    have hs1 : s1.length ≤ 1000 := by simp at hst; omega
    have hgl : Glob w1 := hg.below (hmv.below h.base (fun k hk => (h.stk.lt k hk).1) (by have := h.lt; have := h.base; omega)) hB
    go_wp2_with (first | (go_at_call 84; go_loud (refine (itoa_call (x.length : Int) (by omega) (by omega) hgl).mono ?_); rintro e w2 ⟨rfl, hb2⟩) | (go_at_call 34; go_loud (refine (vm_put_new (w := w2) [Lib.itoa (x.length : Int)] 1 1 (hm.kept hb2) (by simp) hs1 (((Below.refl _ _).alloc (Nat.le_refl _) _)) (heap_alloc_new w2 _) rfl).mono ?_); rintro e w3 ⟨rfl, hq⟩))
    go_ret
    exact ⟨rfl, OpPost.moved hq (hmv.trans (Moved.of_below hb2))⟩
end
end Go.Proofs.YtejpkjcjoengbaaGreatDoor
set_option linter.unusedVariables false
set_option linter.unusedSimpArgs false
namespace Go.Proofs.YtejpkjcjoengbaaGreatDoor
open Go.RowKit

theorem bs_append (x y : List UInt8) : bs x ++ bs y = bs (x ++ y) := by
  apply ByteArray.ext
  simp [bs]
theorem fn_cat (x y : List UInt8) (hx : x.length ≤ 1000000) (hy : y.length ≤ 1000000) {w : World} : Calls Tryz.prog 83 #[.string (bs x), .string (bs y)] w fun e w' => e = .returned (.string (bs (x ++ y))) ∧ Below w.heap.size w w' := by
  go_enter Tryz.func83, Tryz.ntmps83
  go_wp2
  go_ret
  refine ⟨?_, Below.refl _ _⟩
  rw [show bs x ++ bs y = bs (x ++ y) from bs_append x y]
  rfl
theorem fn_eq (x y : List UInt8) {w : World} : Calls Tryz.prog 85 #[.string (bs x), .string (bs y)] w fun e w' => e = .returned (.string (bs (if x = y then [49] else []))) ∧ Below w.heap.size w w' := by
  by_cases h : x = y
  · subst h
    rw [if_pos rfl]
    go_enter Tryz.func85, Tryz.ntmps85
    go_wp2
    go_ret
    exact ⟨rfl, Below.refl _ _⟩
  · rw [if_neg h]
    have hxy : (x == y) = false := by simp [h]
    go_enter Tryz.func85, Tryz.ntmps85
    go_wp2
    go_ret
    exact ⟨rfl, Below.refl _ _⟩
set_option maxRecDepth 100000 in
set_option maxHeartbeats 1000000 in
theorem fn_add (x y : List UInt8) (hx : x.length ≤ 1000000) (hy : y.length ≤ 1000000) {w : World} (hg : Glob w) : Calls Tryz.prog 86 #[.string (bs x), .string (bs y)] w fun e w' => e = .returned (.string (bs (Lib.itoa (numF x + numF y)))) ∧ Below w.heap.size w w' := by
  have b1 := numF_bound x
  have b2 := numF_bound y
  go_enter Tryz.func86, Tryz.ntmps86
  go_wp2_with (go_at_call 78; refine (vm_number x hx hg).mono ?_)
  rintro e w2 ⟨rfl, hb⟩
  go_wp2_with (go_at_call 78; refine (vm_number y hy (hg.grown hb)).mono ?_)
  rintro e w3 ⟨rfl, hb2⟩
  go_wp2_with (go_at_call 84; refine (itoa_call (numF x + numF y) (by omega) (by omega) ((hg.grown hb).grown hb2)).mono ?_)
  rintro e w4 ⟨rfl, hb3⟩
  go_wp2
  go_ret
  exact ⟨rfl, (hb.trans (hb2.mono hb.size)).trans (hb3.mono (Nat.le_trans hb.size hb2.size))⟩
set_option maxRecDepth 100000 in
set_option maxHeartbeats 1000000 in
theorem fn_sub (x y : List UInt8) (hx : x.length ≤ 1000000) (hy : y.length ≤ 1000000) {w : World} (hg : Glob w) : Calls Tryz.prog 87 #[.string (bs x), .string (bs y)] w fun e w' => e = .returned (.string (bs (Lib.itoa (numF x - numF y)))) ∧ Below w.heap.size w w' := by
  have b1 := numF_bound x
  have b2 := numF_bound y
  go_enter Tryz.func87, Tryz.ntmps87
  go_wp2_with (go_at_call 78; refine (vm_number x hx hg).mono ?_)
  rintro e w2 ⟨rfl, hb⟩
  go_wp2_with (go_at_call 78; refine (vm_number y hy (hg.grown hb)).mono ?_)
  rintro e w3 ⟨rfl, hb2⟩
  go_wp2_with (go_at_call 84; refine (itoa_call (numF x - numF y) (by omega) (by omega) ((hg.grown hb).grown hb2)).mono ?_)
  rintro e w4 ⟨rfl, hb3⟩
  go_wp2
  go_ret
  exact ⟨rfl, (hb.trans (hb2.mono hb.size)).trans (hb3.mono (Nat.le_trans hb.size hb2.size))⟩

section
variable {B b : Nat} {ev av iv : Value} {most : Int} {sv : Value} {ov : Value} {bytes : Int} {lb : List UInt8} {w : World} {st : List (List UInt8)}

def twoR (f : List UInt8 → List UInt8 → List UInt8) (st : List (List UInt8)) : ORes := match top2 st with | none => .error 40 | some (s, x, y) => putR s [f x y]

set_option maxHeartbeats 1000000 in
set_option maxRecDepth 100000 in
theorem vm_two_cat (f : List UInt8 → List UInt8 → List UInt8) (hg : Glob w) (h : Mac B b ev av iv most sv st ov bytes lb w) (hB : Tryz.prog.globals.size ≤ B) (hst : st.length ≤ 1000) (hbig : ∀ x ∈ st, x.length ≤ 1000000)
    (hf : ∀ (x y : List UInt8), x.length ≤ 1000000 → y.length ≤ 1000000 → ∀ w : World, Glob w → Calls Tryz.prog 83 #[.string (bs x), .string (bs y)] w fun e w' => e = .returned (.string (bs (f x y))) ∧ Below w.heap.size w w') :
    Calls Tryz.prog 82 #[.pointer (some ⟨b, 0, none⟩), .func (.func 83) #[] #[]] w (OpPost (twoR f st) B b ev av iv most sv ov bytes lb w) := by
  rcases top2_cases st with ⟨h1, h2⟩ | ⟨s1, x, y, rfl⟩
  · have hr : twoR f st = .error 40 := by simp [twoR, h1]
    rw [hr]
    go_enter Tryz.func82, Tryz.ntmps82
    go_wp2_with (go_at_call 77; refine (vm_take_few h 2 (by omega) (by decide)).mono ?_; rintro e w1 ⟨rfl, rfl⟩)
    go_ret
    exact ⟨rfl, _, Moved.refl _ _ _⟩
  · have hx := hbig x (by simp)
    have hy := hbig y (by simp)
    go_enter Tryz.func82, Tryz.ntmps82
    go_wp2_with (go_at_call 77; refine (vm_take s1 [x, y] h (by simp) hst 2 rfl).mono ?_)
    rintro e w1 ⟨g, c, sv', rfl, ⟨hg0, hg1, hg2, hg3⟩, hc, hm, hmv⟩
    have c0 := hc 0 x rfl
    have c1 := hc 1 y rfl
    have hs1 : s1.length ≤ 1000 := by simp at hst; omega
    have hgl : Glob w1 := hg.below (hmv.below h.base (fun k hk => (h.stk.lt k hk).1) (by have := h.lt; have := h.base; omega)) hB
    go_wp2
    have hr : twoR f (s1 ++ [x, y]) = putR s1 [f x y] := by simp [twoR, top2_snoc]
    have hfc := hf x y hx hy w1.drew (hgl.grown (Below.refl _ _).drew)
    clear hf
    go_region_held3 (fun w' => w'.cell? ⟨g, 0, none⟩ = some (.string (bs x)) ∧ w'.cell? ⟨g, 1, none⟩ = some (.string (bs y))) (first | go_keep | exact ⟨(hb.cell hg1).trans c0, (hb.cell hg1).trans c1⟩ | exact ⟨(OpState.cell hq (Nat.lt_of_lt_of_le hg1 hb.size) hg2 hg3).trans ((hb.cell hg1).trans c0), (OpState.cell hq (Nat.lt_of_lt_of_le hg1 hb.size) hg2 hg3).trans ((hb.cell hg1).trans c1)⟩) (first | (go_at_call 83; refine hfc.mono ?_; rintro e w2 ⟨rfl, hb⟩; replace hb : Below w1.heap.size w1 w2 := (Below.refl _ _).drew.trans hb) | (go_at_call 34; go_loud (refine (vm_put_new (w := w2) [f x y] 1 1 (hm.kept hb) (by simp) hs1 (((Below.refl _ _).alloc (Nat.le_refl _) _)) (heap_alloc_new w2 _) rfl).mono ?_); rintro e w3 ⟨rfl, hq⟩))
    go_wp2
    go_ret
    rw [hr]
    exact ⟨rfl, OpPost.moved hq (hmv.trans (Moved.of_below hb))⟩
set_option maxHeartbeats 1000000 in
set_option maxRecDepth 100000 in
theorem vm_cat (hg : Glob w) (h : Mac B b ev av iv most sv st ov bytes lb w) (hB : Tryz.prog.globals.size ≤ B) (hst : st.length ≤ 1000) (hbig : ∀ x ∈ st, x.length ≤ 1000000) (s : ByteArray) :
    Calls Tryz.prog 42 #[.pointer (some ⟨b, 0, none⟩), .string s] w (OpPost (twoR (fun x y => x ++ y) st) B b ev av iv most sv ov bytes lb w) := by
  go_enter Tryz.func42, Tryz.ntmps42
  go_wp2_with (go_at_call 82; refine (vm_two_cat (fun x y => x ++ y) hg h hB hst hbig (fun x y hx hy w hg => fn_cat x y hx hy)).mono ?_; rintro e w1 ⟨rfl, hq⟩)
  go_ret
  exact ⟨rfl, hq⟩
set_option maxHeartbeats 1000000 in
set_option maxRecDepth 100000 in
theorem vm_two_eq (f : List UInt8 → List UInt8 → List UInt8) (hg : Glob w) (h : Mac B b ev av iv most sv st ov bytes lb w) (hB : Tryz.prog.globals.size ≤ B) (hst : st.length ≤ 1000) (hbig : ∀ x ∈ st, x.length ≤ 1000000)
    (hf : ∀ (x y : List UInt8), x.length ≤ 1000000 → y.length ≤ 1000000 → ∀ w : World, Glob w → Calls Tryz.prog 85 #[.string (bs x), .string (bs y)] w fun e w' => e = .returned (.string (bs (f x y))) ∧ Below w.heap.size w w') :
    Calls Tryz.prog 82 #[.pointer (some ⟨b, 0, none⟩), .func (.func 85) #[] #[]] w (OpPost (twoR f st) B b ev av iv most sv ov bytes lb w) := by
  rcases top2_cases st with ⟨h1, h2⟩ | ⟨s1, x, y, rfl⟩
  · have hr : twoR f st = .error 40 := by simp [twoR, h1]
    rw [hr]
    go_enter Tryz.func82, Tryz.ntmps82
    go_wp2_with (go_at_call 77; refine (vm_take_few h 2 (by omega) (by decide)).mono ?_; rintro e w1 ⟨rfl, rfl⟩)
    go_ret
    exact ⟨rfl, _, Moved.refl _ _ _⟩
  · have hx := hbig x (by simp)
    have hy := hbig y (by simp)
    go_enter Tryz.func82, Tryz.ntmps82
    go_wp2_with (go_at_call 77; refine (vm_take s1 [x, y] h (by simp) hst 2 rfl).mono ?_)
    rintro e w1 ⟨g, c, sv', rfl, ⟨hg0, hg1, hg2, hg3⟩, hc, hm, hmv⟩
    have c0 := hc 0 x rfl
    have c1 := hc 1 y rfl
    have hs1 : s1.length ≤ 1000 := by simp at hst; omega
    have hgl : Glob w1 := hg.below (hmv.below h.base (fun k hk => (h.stk.lt k hk).1) (by have := h.lt; have := h.base; omega)) hB
    go_wp2
    have hr : twoR f (s1 ++ [x, y]) = putR s1 [f x y] := by simp [twoR, top2_snoc]
    have hfc := hf x y hx hy w1.drew (hgl.grown (Below.refl _ _).drew)
    clear hf
    go_region_held3 (fun w' => w'.cell? ⟨g, 0, none⟩ = some (.string (bs x)) ∧ w'.cell? ⟨g, 1, none⟩ = some (.string (bs y))) (first | go_keep | exact ⟨(hb.cell hg1).trans c0, (hb.cell hg1).trans c1⟩ | exact ⟨(OpState.cell hq (Nat.lt_of_lt_of_le hg1 hb.size) hg2 hg3).trans ((hb.cell hg1).trans c0), (OpState.cell hq (Nat.lt_of_lt_of_le hg1 hb.size) hg2 hg3).trans ((hb.cell hg1).trans c1)⟩) (first | (go_at_call 85; refine hfc.mono ?_; rintro e w2 ⟨rfl, hb⟩; replace hb : Below w1.heap.size w1 w2 := (Below.refl _ _).drew.trans hb) | (go_at_call 34; go_loud (refine (vm_put_new (w := w2) [f x y] 1 1 (hm.kept hb) (by simp) hs1 (((Below.refl _ _).alloc (Nat.le_refl _) _)) (heap_alloc_new w2 _) rfl).mono ?_); rintro e w3 ⟨rfl, hq⟩))
    go_wp2
    go_ret
    rw [hr]
    exact ⟨rfl, OpPost.moved hq (hmv.trans (Moved.of_below hb))⟩
set_option maxHeartbeats 1000000 in
set_option maxRecDepth 100000 in
theorem vm_eq (hg : Glob w) (h : Mac B b ev av iv most sv st ov bytes lb w) (hB : Tryz.prog.globals.size ≤ B) (hst : st.length ≤ 1000) (hbig : ∀ x ∈ st, x.length ≤ 1000000) (s : ByteArray) :
    Calls Tryz.prog 47 #[.pointer (some ⟨b, 0, none⟩), .string s] w (OpPost (twoR (fun x y => if x = y then [49] else []) st) B b ev av iv most sv ov bytes lb w) := by
  go_enter Tryz.func47, Tryz.ntmps47
  go_wp2_with (go_at_call 82; refine (vm_two_eq (fun x y => if x = y then [49] else []) hg h hB hst hbig (fun x y hx hy w hg => fn_eq x y)).mono ?_; rintro e w1 ⟨rfl, hq⟩)
  go_ret
  exact ⟨rfl, hq⟩
set_option maxHeartbeats 1000000 in
set_option maxRecDepth 100000 in
theorem vm_two_add (f : List UInt8 → List UInt8 → List UInt8) (hg : Glob w) (h : Mac B b ev av iv most sv st ov bytes lb w) (hB : Tryz.prog.globals.size ≤ B) (hst : st.length ≤ 1000) (hbig : ∀ x ∈ st, x.length ≤ 1000000)
    (hf : ∀ (x y : List UInt8), x.length ≤ 1000000 → y.length ≤ 1000000 → ∀ w : World, Glob w → Calls Tryz.prog 86 #[.string (bs x), .string (bs y)] w fun e w' => e = .returned (.string (bs (f x y))) ∧ Below w.heap.size w w') :
    Calls Tryz.prog 82 #[.pointer (some ⟨b, 0, none⟩), .func (.func 86) #[] #[]] w (OpPost (twoR f st) B b ev av iv most sv ov bytes lb w) := by
  rcases top2_cases st with ⟨h1, h2⟩ | ⟨s1, x, y, rfl⟩
  · have hr : twoR f st = .error 40 := by simp [twoR, h1]
    rw [hr]
    go_enter Tryz.func82, Tryz.ntmps82
    go_wp2_with (go_at_call 77; refine (vm_take_few h 2 (by omega) (by decide)).mono ?_; rintro e w1 ⟨rfl, rfl⟩)
    go_ret
    exact ⟨rfl, _, Moved.refl _ _ _⟩
  · have hx := hbig x (by simp)
    have hy := hbig y (by simp)
    go_enter Tryz.func82, Tryz.ntmps82
    go_wp2_with (go_at_call 77; refine (vm_take s1 [x, y] h (by simp) hst 2 rfl).mono ?_)
    rintro e w1 ⟨g, c, sv', rfl, ⟨hg0, hg1, hg2, hg3⟩, hc, hm, hmv⟩
    have c0 := hc 0 x rfl
    have c1 := hc 1 y rfl
    have hs1 : s1.length ≤ 1000 := by simp at hst; omega
    have hgl : Glob w1 := hg.below (hmv.below h.base (fun k hk => (h.stk.lt k hk).1) (by have := h.lt; have := h.base; omega)) hB
    go_wp2
    have hr : twoR f (s1 ++ [x, y]) = putR s1 [f x y] := by simp [twoR, top2_snoc]
    have hfc := hf x y hx hy w1.drew (hgl.grown (Below.refl _ _).drew)
    clear hf
    go_region_held3 (fun w' => w'.cell? ⟨g, 0, none⟩ = some (.string (bs x)) ∧ w'.cell? ⟨g, 1, none⟩ = some (.string (bs y))) (first | go_keep | exact ⟨(hb.cell hg1).trans c0, (hb.cell hg1).trans c1⟩ | exact ⟨(OpState.cell hq (Nat.lt_of_lt_of_le hg1 hb.size) hg2 hg3).trans ((hb.cell hg1).trans c0), (OpState.cell hq (Nat.lt_of_lt_of_le hg1 hb.size) hg2 hg3).trans ((hb.cell hg1).trans c1)⟩) (first | (go_at_call 86; refine hfc.mono ?_; rintro e w2 ⟨rfl, hb⟩; replace hb : Below w1.heap.size w1 w2 := (Below.refl _ _).drew.trans hb) | (go_at_call 34; go_loud (refine (vm_put_new (w := w2) [f x y] 1 1 (hm.kept hb) (by simp) hs1 (((Below.refl _ _).alloc (Nat.le_refl _) _)) (heap_alloc_new w2 _) rfl).mono ?_); rintro e w3 ⟨rfl, hq⟩))
    go_wp2
    go_ret
    rw [hr]
    exact ⟨rfl, OpPost.moved hq (hmv.trans (Moved.of_below hb))⟩
set_option maxHeartbeats 1000000 in
set_option maxRecDepth 100000 in
theorem vm_add (hg : Glob w) (h : Mac B b ev av iv most sv st ov bytes lb w) (hB : Tryz.prog.globals.size ≤ B) (hst : st.length ≤ 1000) (hbig : ∀ x ∈ st, x.length ≤ 1000000) (s : ByteArray) :
    Calls Tryz.prog 48 #[.pointer (some ⟨b, 0, none⟩), .string s] w (OpPost (twoR (fun x y => Lib.itoa (numF x + numF y)) st) B b ev av iv most sv ov bytes lb w) := by
  go_enter Tryz.func48, Tryz.ntmps48
  go_wp2_with (go_at_call 82; refine (vm_two_add (fun x y => Lib.itoa (numF x + numF y)) hg h hB hst hbig (fun x y hx hy w hg => fn_add x y hx hy hg)).mono ?_; rintro e w1 ⟨rfl, hq⟩)
  go_ret
  exact ⟨rfl, hq⟩
set_option maxHeartbeats 1000000 in
set_option maxRecDepth 100000 in
theorem vm_two_sub (f : List UInt8 → List UInt8 → List UInt8) (hg : Glob w) (h : Mac B b ev av iv most sv st ov bytes lb w) (hB : Tryz.prog.globals.size ≤ B) (hst : st.length ≤ 1000) (hbig : ∀ x ∈ st, x.length ≤ 1000000)
    (hf : ∀ (x y : List UInt8), x.length ≤ 1000000 → y.length ≤ 1000000 → ∀ w : World, Glob w → Calls Tryz.prog 87 #[.string (bs x), .string (bs y)] w fun e w' => e = .returned (.string (bs (f x y))) ∧ Below w.heap.size w w') :
    Calls Tryz.prog 82 #[.pointer (some ⟨b, 0, none⟩), .func (.func 87) #[] #[]] w (OpPost (twoR f st) B b ev av iv most sv ov bytes lb w) := by
  rcases top2_cases st with ⟨h1, h2⟩ | ⟨s1, x, y, rfl⟩
  · have hr : twoR f st = .error 40 := by simp [twoR, h1]
    rw [hr]
    go_enter Tryz.func82, Tryz.ntmps82
    go_wp2_with (go_at_call 77; refine (vm_take_few h 2 (by omega) (by decide)).mono ?_; rintro e w1 ⟨rfl, rfl⟩)
    go_ret
    exact ⟨rfl, _, Moved.refl _ _ _⟩
  · have hx := hbig x (by simp)
    have hy := hbig y (by simp)
    go_enter Tryz.func82, Tryz.ntmps82
    go_wp2_with (go_at_call 77; refine (vm_take s1 [x, y] h (by simp) hst 2 rfl).mono ?_)
    rintro e w1 ⟨g, c, sv', rfl, ⟨hg0, hg1, hg2, hg3⟩, hc, hm, hmv⟩
    have c0 := hc 0 x rfl
    have c1 := hc 1 y rfl
    have hs1 : s1.length ≤ 1000 := by simp at hst; omega
    have hgl : Glob w1 := hg.below (hmv.below h.base (fun k hk => (h.stk.lt k hk).1) (by have := h.lt; have := h.base; omega)) hB
    go_wp2
    have hr : twoR f (s1 ++ [x, y]) = putR s1 [f x y] := by simp [twoR, top2_snoc]
    have hfc := hf x y hx hy w1.drew (hgl.grown (Below.refl _ _).drew)
    clear hf
    go_region_held3 (fun w' => w'.cell? ⟨g, 0, none⟩ = some (.string (bs x)) ∧ w'.cell? ⟨g, 1, none⟩ = some (.string (bs y))) (first | go_keep | exact ⟨(hb.cell hg1).trans c0, (hb.cell hg1).trans c1⟩ | exact ⟨(OpState.cell hq (Nat.lt_of_lt_of_le hg1 hb.size) hg2 hg3).trans ((hb.cell hg1).trans c0), (OpState.cell hq (Nat.lt_of_lt_of_le hg1 hb.size) hg2 hg3).trans ((hb.cell hg1).trans c1)⟩) (first | (go_at_call 87; refine hfc.mono ?_; rintro e w2 ⟨rfl, hb⟩; replace hb : Below w1.heap.size w1 w2 := (Below.refl _ _).drew.trans hb) | (go_at_call 34; go_loud (refine (vm_put_new (w := w2) [f x y] 1 1 (hm.kept hb) (by simp) hs1 (((Below.refl _ _).alloc (Nat.le_refl _) _)) (heap_alloc_new w2 _) rfl).mono ?_); rintro e w3 ⟨rfl, hq⟩))
    go_wp2
    go_ret
    rw [hr]
    exact ⟨rfl, OpPost.moved hq (hmv.trans (Moved.of_below hb))⟩
set_option maxHeartbeats 1000000 in
set_option maxRecDepth 100000 in
theorem vm_sub (hg : Glob w) (h : Mac B b ev av iv most sv st ov bytes lb w) (hB : Tryz.prog.globals.size ≤ B) (hst : st.length ≤ 1000) (hbig : ∀ x ∈ st, x.length ≤ 1000000) (s : ByteArray) :
    Calls Tryz.prog 49 #[.pointer (some ⟨b, 0, none⟩), .string s] w (OpPost (twoR (fun x y => Lib.itoa (numF x - numF y)) st) B b ev av iv most sv ov bytes lb w) := by
  go_enter Tryz.func49, Tryz.ntmps49
  go_wp2_with (go_at_call 82; refine (vm_two_sub (fun x y => Lib.itoa (numF x - numF y)) hg h hB hst hbig (fun x y hx hy w hg => fn_sub x y hx hy hg)).mono ?_; rintro e w1 ⟨rfl, hq⟩)
  go_ret
  exact ⟨rfl, hq⟩
end
end Go.Proofs.YtejpkjcjoengbaaGreatDoor
