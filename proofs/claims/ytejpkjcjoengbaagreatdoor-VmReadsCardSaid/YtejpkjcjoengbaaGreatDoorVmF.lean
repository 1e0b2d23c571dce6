/-
  package vm: the operations that make one text of two, by walk.
-/
import Derived.Test.YtejpkjcjoengbaaGreatDoorVmE
set_option linter.unusedVariables false
set_option linter.unusedSimpArgs false
namespace Go.Proofs.YtejpkjcjoengbaaGreatDoor
open Go.RowKit

theorem bs_append (x y : List UInt8) : bs x ++ bs y = bs (x ++ y) := by
  apply ByteArray.ext
  simp [bs]
theorem fn_cat (x y : List UInt8) (hx : x.length ≤ 1000000) (hy : y.length ≤ 1000000) {w : World} : Calls Tryz.prog 83 #[.string (bs x), .string (bs y)] w fun e w' => e = .returned (.string (bs (x ++ y))) ∧ Below w.heap.size w w' := by
  go_enter Tryz.func83, Tryz.ntmps83
  go_wp2
  go_ret
  refine ⟨?_, Below.refl _ _⟩
  rw [show bs x ++ bs y = bs (x ++ y) from bs_append x y]
  rfl
theorem fn_eq (x y : List UInt8) {w : World} : Calls Tryz.prog 85 #[.string (bs x), .string (bs y)] w fun e w' => e = .returned (.string (bs (if x = y then [49] else []))) ∧ Below w.heap.size w w' := by
  by_cases h : x = y
  · subst h
    rw [if_pos rfl]
    go_enter Tryz.func85, Tryz.ntmps85
    go_wp2
    go_ret
    exact ⟨rfl, Below.refl _ _⟩
  · rw [if_neg h]
    have hxy : (x == y) = false := by simp [h]
    go_enter Tryz.func85, Tryz.ntmps85
    go_wp2
    go_ret
    exact ⟨rfl, Below.refl _ _⟩
set_option maxRecDepth 100000 in
set_option maxHeartbeats 1000000 in
theorem fn_add (x y : List UInt8) (hx : x.length ≤ 1000000) (hy : y.length ≤ 1000000) {w : World} (hg : Glob w) : Calls Tryz.prog 86 #[.string (bs x), .string (bs y)] w fun e w' => e = .returned (.string (bs (Lib.itoa (numF x + numF y)))) ∧ Below w.heap.size w w' := by
  have b1 := numF_bound x
  have b2 := numF_bound y
  go_enter Tryz.func86, Tryz.ntmps86
  go_wp2_with (go_at_call 78; refine (vm_number x hx hg).mono ?_)
  rintro e w2 ⟨rfl, hb⟩
  go_wp2_with (go_at_call 78; refine (vm_number y hy (hg.grown hb)).mono ?_)
  rintro e w3 ⟨rfl, hb2⟩
  go_wp2_with (go_at_call 84; refine (itoa_call (numF x + numF y) (by omega) (by omega) ((hg.grown hb).grown hb2)).mono ?_)
  rintro e w4 ⟨rfl, hb3⟩
  go_wp2
  go_ret
  exact ⟨rfl, (hb.trans (hb2.mono hb.size)).trans (hb3.mono (Nat.le_trans hb.size hb2.size))⟩
set_option maxRecDepth 100000 in
set_option maxHeartbeats 1000000 in
theorem fn_sub (x y : List UInt8) (hx : x.length ≤ 1000000) (hy : y.length ≤ 1000000) {w : World} (hg : Glob w) : Calls Tryz.prog 87 #[.string (bs x), .string (bs y)] w fun e w' => e = .returned (.string (bs (Lib.itoa (numF x - numF y)))) ∧ Below w.heap.size w w' := by
  have b1 := numF_bound x
  have b2 := numF_bound y
  go_enter Tryz.func87, Tryz.ntmps87
  go_wp2_with (go_at_call 78; refine (vm_number x hx hg).mono ?_)
  rintro e w2 ⟨rfl, hb⟩
  go_wp2_with (go_at_call 78; refine (vm_number y hy (hg.grown hb)).mono ?_)
  rintro e w3 ⟨rfl, hb2⟩
  go_wp2_with (go_at_call 84; refine (itoa_call (numF x - numF y) (by omega) (by omega) ((hg.grown hb).grown hb2)).mono ?_)
  rintro e w4 ⟨rfl, hb3⟩
  go_wp2
  go_ret
  exact ⟨rfl, (hb.trans (hb2.mono hb.size)).trans (hb3.mono (Nat.le_trans hb.size hb2.size))⟩

section
variable {B b : Nat} {ev av iv : Value} {most : Int} {sv : Value} {ov : Value} {bytes : Int} {lb : List UInt8} {w : World} {st : List (List UInt8)}

def twoR (f : List UInt8 → List UInt8 → List UInt8) (st : List (List UInt8)) : ORes := match top2 st with | none => .error 40 | some (s, x, y) => putR s [f x y]

set_option maxHeartbeats 1000000 in
set_option maxRecDepth 100000 in
theorem vm_two_cat (f : List UInt8 → List UInt8 → List UInt8) (hg : Glob w) (h : Mac B b ev av iv most sv st ov bytes lb w) (hB : Tryz.prog.globals.size ≤ B) (hst : st.length ≤ 1000) (hbig : ∀ x ∈ st, x.length ≤ 1000000)
    (hf : ∀ (x y : List UInt8), x.length ≤ 1000000 → y.length ≤ 1000000 → ∀ w : World, Glob w → Calls Tryz.prog 83 #[.string (bs x), .string (bs y)] w fun e w' => e = .returned (.string (bs (f x y))) ∧ Below w.heap.size w w') :
    Calls Tryz.prog 82 #[.pointer (some ⟨b, 0, none⟩), .func (.func 83) #[] #[]] w (OpPost (twoR f st) B b ev av iv most sv ov bytes lb w) := by
  rcases top2_cases st with ⟨h1, h2⟩ | ⟨s1, x, y, rfl⟩
  · have hr : twoR f st = .error 40 := by simp [twoR, h1]
    rw [hr]
    go_enter Tryz.func82, Tryz.ntmps82
    go_wp2_with (go_at_call 77; refine (vm_take_few h 2 (by omega) (by decide)).mono ?_; rintro e w1 ⟨rfl, rfl⟩)
    go_ret
    exact ⟨rfl, _, Moved.refl _ _ _⟩
  · have hx := hbig x (by simp)
    have hy := hbig y (by simp)
    go_enter Tryz.func82, Tryz.ntmps82
    go_wp2_with (go_at_call 77; refine (vm_take s1 [x, y] h (by simp) hst 2 rfl).mono ?_)
    rintro e w1 ⟨g, c, sv', rfl, ⟨hg0, hg1, hg2, hg3⟩, hc, hm, hmv⟩
    have c0 := hc 0 x rfl
    have c1 := hc 1 y rfl
    have hs1 : s1.length ≤ 1000 := by simp at hst; omega
    have hgl : Glob w1 := hg.below (hmv.below h.base (fun k hk => (h.stk.lt k hk).1) (by have := h.lt; have := h.base; omega)) hB
    go_wp2
    have hr : twoR f (s1 ++ [x, y]) = putR s1 [f x y] := by simp [twoR, top2_snoc]
    have hfc := hf x y hx hy w1.drew (hgl.grown (Below.refl _ _).drew)
    clear hf
    go_region_held3 (fun w' => w'.cell? ⟨g, 0, none⟩ = some (.string (bs x)) ∧ w'.cell? ⟨g, 1, none⟩ = some (.string (bs y))) (first | go_keep | exact ⟨(hb.cell hg1).trans c0, (hb.cell hg1).trans c1⟩ | exact ⟨(OpState.cell hq (Nat.lt_of_lt_of_le hg1 hb.size) hg2 hg3).trans ((hb.cell hg1).trans c0), (OpState.cell hq (Nat.lt_of_lt_of_le hg1 hb.size) hg2 hg3).trans ((hb.cell hg1).trans c1)⟩) (first | (go_at_call 83; refine hfc.mono ?_; rintro e w2 ⟨rfl, hb⟩; replace hb : Below w1.heap.size w1 w2 := (Below.refl _ _).drew.trans hb) | (go_at_call 34; go_loud (refine (vm_put_new (w := w2) [f x y] 1 1 (hm.kept hb) (by simp) hs1 (((Below.refl _ _).alloc (Nat.le_refl _) _)) (heap_alloc_new w2 _) rfl).mono ?_); rintro e w3 ⟨rfl, hq⟩))
    go_wp2
    go_ret
    rw [hr]
    exact ⟨rfl, OpPost.moved hq (hmv.trans (Moved.of_below hb))⟩
set_option maxHeartbeats 1000000 in
set_option maxRecDepth 100000 in
theorem vm_cat (hg : Glob w) (h : Mac B b ev av iv most sv st ov bytes lb w) (hB : Tryz.prog.globals.size ≤ B) (hst : st.length ≤ 1000) (hbig : ∀ x ∈ st, x.length ≤ 1000000) (s : ByteArray) :
    Calls Tryz.prog 42 #[.pointer (some ⟨b, 0, none⟩), .string s] w (OpPost (twoR (fun x y => x ++ y) st) B b ev av iv most sv ov bytes lb w) := by
  go_enter Tryz.func42, Tryz.ntmps42
  go_wp2_with (go_at_call 82; refine (vm_two_cat (fun x y => x ++ y) hg h hB hst hbig (fun x y hx hy w hg => fn_cat x y hx hy)).mono ?_; rintro e w1 ⟨rfl, hq⟩)
  go_ret
  exact ⟨rfl, hq⟩
set_option maxHeartbeats 1000000 in
set_option maxRecDepth 100000 in
theorem vm_two_eq (f : List UInt8 → List UInt8 → List UInt8) (hg : Glob w) (h : Mac B b ev av iv most sv st ov bytes lb w) (hB : Tryz.prog.globals.size ≤ B) (hst : st.length ≤ 1000) (hbig : ∀ x ∈ st, x.length ≤ 1000000)
    (hf : ∀ (x y : List UInt8), x.length ≤ 1000000 → y.length ≤ 1000000 → ∀ w : World, Glob w → Calls Tryz.prog 85 #[.string (bs x), .string (bs y)] w fun e w' => e = .returned (.string (bs (f x y))) ∧ Below w.heap.size w w') :
    Calls Tryz.prog 82 #[.pointer (some ⟨b, 0, none⟩), .func (.func 85) #[] #[]] w (OpPost (twoR f st) B b ev av iv most sv ov bytes lb w) := by
  rcases top2_cases st with ⟨h1, h2⟩ | ⟨s1, x, y, rfl⟩
  · have hr : twoR f st = .error 40 := by simp [twoR, h1]
    rw [hr]
    go_enter Tryz.func82, Tryz.ntmps82
    go_wp2_with (go_at_call 77; refine (vm_take_few h 2 (by omega) (by decide)).mono ?_; rintro e w1 ⟨rfl, rfl⟩)
    go_ret
    exact ⟨rfl, _, Moved.refl _ _ _⟩
  · have hx := hbig x (by simp)
    have hy := hbig y (by simp)
    go_enter Tryz.func82, Tryz.ntmps82
    go_wp2_with (go_at_call 77; refine (vm_take s1 [x, y] h (by simp) hst 2 rfl).mono ?_)
    rintro e w1 ⟨g, c, sv', rfl, ⟨hg0, hg1, hg2, hg3⟩, hc, hm, hmv⟩
    have c0 := hc 0 x rfl
    have c1 := hc 1 y rfl
    have hs1 : s1.length ≤ 1000 := by simp at hst; omega
    have hgl : Glob w1 := hg.below (hmv.below h.base (fun k hk => (h.stk.lt k hk).1) (by have := h.lt; have := h.base; omega)) hB
    go_wp2
    have hr : twoR f (s1 ++ [x, y]) = putR s1 [f x y] := by simp [twoR, top2_snoc]
    have hfc := hf x y hx hy w1.drew (hgl.grown (Below.refl _ _).drew)
    clear hf
    go_region_held3 (fun w' => w'.cell? ⟨g, 0, none⟩ = some (.string (bs x)) ∧ w'.cell? ⟨g, 1, none⟩ = some (.string (bs y))) (first | go_keep | exact ⟨(hb.cell hg1).trans c0, (hb.cell hg1).trans c1⟩ | exact ⟨(OpState.cell hq (Nat.lt_of_lt_of_le hg1 hb.size) hg2 hg3).trans ((hb.cell hg1).trans c0), (OpState.cell hq (Nat.lt_of_lt_of_le hg1 hb.size) hg2 hg3).trans ((hb.cell hg1).trans c1)⟩) (first | (go_at_call 85; refine hfc.mono ?_; rintro e w2 ⟨rfl, hb⟩; replace hb : Below w1.heap.size w1 w2 := (Below.refl _ _).drew.trans hb) | (go_at_call 34; go_loud (refine (vm_put_new (w := w2) [f x y] 1 1 (hm.kept hb) (by simp) hs1 (((Below.refl _ _).alloc (Nat.le_refl _) _)) (heap_alloc_new w2 _) rfl).mono ?_); rintro e w3 ⟨rfl, hq⟩))
    go_wp2
    go_ret
    rw [hr]
    exact ⟨rfl, OpPost.moved hq (hmv.trans (Moved.of_below hb))⟩
set_option maxHeartbeats 1000000 in
set_option maxRecDepth 100000 in
theorem vm_eq (hg : Glob w) (h : Mac B b ev av iv most sv st ov bytes lb w) (hB : Tryz.prog.globals.size ≤ B) (hst : st.length ≤ 1000) (hbig : ∀ x ∈ st, x.length ≤ 1000000) (s : ByteArray) :
    Calls Tryz.prog 47 #[.pointer (some ⟨b, 0, none⟩), .string s] w (OpPost (twoR (fun x y => if x = y then [49] else []) st) B b ev av iv most sv ov bytes lb w) := by
  go_enter Tryz.func47, Tryz.ntmps47
  go_wp2_with (go_at_call 82; refine (vm_two_eq (fun x y => if x = y then [49] else []) hg h hB hst hbig (fun x y hx hy w hg => fn_eq x y)).mono ?_; rintro e w1 ⟨rfl, hq⟩)
  go_ret
  exact ⟨rfl, hq⟩
set_option maxHeartbeats 1000000 in
set_option maxRecDepth 100000 in
theorem vm_two_add (f : List UInt8 → List UInt8 → List UInt8) (hg : Glob w) (h : Mac B b ev av iv most sv st ov bytes lb w) (hB : Tryz.prog.globals.size ≤ B) (hst : st.length ≤ 1000) (hbig : ∀ x ∈ st, x.length ≤ 1000000)
    (hf : ∀ (x y : List UInt8), x.length ≤ 1000000 → y.length ≤ 1000000 → ∀ w : World, Glob w → Calls Tryz.prog 86 #[.string (bs x), .string (bs y)] w fun e w' => e = .returned (.string (bs (f x y))) ∧ Below w.heap.size w w') :
    Calls Tryz.prog 82 #[.pointer (some ⟨b, 0, none⟩), .func (.func 86) #[] #[]] w (OpPost (twoR f st) B b ev av iv most sv ov bytes lb w) := by
  rcases top2_cases st with ⟨h1, h2⟩ | ⟨s1, x, y, rfl⟩
  · have hr : twoR f st = .error 40 := by simp [twoR, h1]
    rw [hr]
    go_enter Tryz.func82, Tryz.ntmps82
    go_wp2_with (go_at_call 77; refine (vm_take_few h 2 (by omega) (by decide)).mono ?_; rintro e w1 ⟨rfl, rfl⟩)
    go_ret
    exact ⟨rfl, _, Moved.refl _ _ _⟩
  · have hx := hbig x (by simp)
    have hy := hbig y (by simp)
    go_enter Tryz.func82, Tryz.ntmps82
    go_wp2_with (go_at_call 77; refine (vm_take s1 [x, y] h (by simp) hst 2 rfl).mono ?_)
    rintro e w1 ⟨g, c, sv', rfl, ⟨hg0, hg1, hg2, hg3⟩, hc, hm, hmv⟩
    have c0 := hc 0 x rfl
    have c1 := hc 1 y rfl
    have hs1 : s1.length ≤ 1000 := by simp at hst; omega
    have hgl : Glob w1 := hg.below (hmv.below h.base (fun k hk => (h.stk.lt k hk).1) (by have := h.lt; have := h.base; omega)) hB
    go_wp2
    have hr : twoR f (s1 ++ [x, y]) = putR s1 [f x y] := by simp [twoR, top2_snoc]
    have hfc := hf x y hx hy w1.drew (hgl.grown (Below.refl _ _).drew)
    clear hf
    go_region_held3 (fun w' => w'.cell? ⟨g, 0, none⟩ = some (.string (bs x)) ∧ w'.cell? ⟨g, 1, none⟩ = some (.string (bs y))) (first | go_keep | exact ⟨(hb.cell hg1).trans c0, (hb.cell hg1).trans c1⟩ | exact ⟨(OpState.cell hq (Nat.lt_of_lt_of_le hg1 hb.size) hg2 hg3).trans ((hb.cell hg1).trans c0), (OpState.cell hq (Nat.lt_of_lt_of_le hg1 hb.size) hg2 hg3).trans ((hb.cell hg1).trans c1)⟩) (first | (go_at_call 86; refine hfc.mono ?_; rintro e w2 ⟨rfl, hb⟩; replace hb : Below w1.heap.size w1 w2 := (Below.refl _ _).drew.trans hb) | (go_at_call 34; go_loud (refine (vm_put_new (w := w2) [f x y] 1 1 (hm.kept hb) (by simp) hs1 (((Below.refl _ _).alloc (Nat.le_refl _) _)) (heap_alloc_new w2 _) rfl).mono ?_); rintro e w3 ⟨rfl, hq⟩))
    go_wp2
    go_ret
    rw [hr]
    exact ⟨rfl, OpPost.moved hq (hmv.trans (Moved.of_below hb))⟩
set_option maxHeartbeats 1000000 in
set_option maxRecDepth 100000 in
theorem vm_add (hg : Glob w) (h : Mac B b ev av iv most sv st ov bytes lb w) (hB : Tryz.prog.globals.size ≤ B) (hst : st.length ≤ 1000) (hbig : ∀ x ∈ st, x.length ≤ 1000000) (s : ByteArray) :
    Calls Tryz.prog 48 #[.pointer (some ⟨b, 0, none⟩), .string s] w (OpPost (twoR (fun x y => Lib.itoa (numF x + numF y)) st) B b ev av iv most sv ov bytes lb w) := by
  go_enter Tryz.func48, Tryz.ntmps48
  go_wp2_with (go_at_call 82; refine (vm_two_add (fun x y => Lib.itoa (numF x + numF y)) hg h hB hst hbig (fun x y hx hy w hg => fn_add x y hx hy hg)).mono ?_; rintro e w1 ⟨rfl, hq⟩)
  go_ret
  exact ⟨rfl, hq⟩
set_option maxHeartbeats 1000000 in
set_option maxRecDepth 100000 in
theorem vm_two_sub (f : List UInt8 → List UInt8 → List UInt8) (hg : Glob w) (h : Mac B b ev av iv most sv st ov bytes lb w) (hB : Tryz.prog.globals.size ≤ B) (hst : st.length ≤ 1000) (hbig : ∀ x ∈ st, x.length ≤ 1000000)
    (hf : ∀ (x y : List UInt8), x.length ≤ 1000000 → y.length ≤ 1000000 → ∀ w : World, Glob w → Calls Tryz.prog 87 #[.string (bs x), .string (bs y)] w fun e w' => e = .returned (.string (bs (f x y))) ∧ Below w.heap.size w w') :
    Calls Tryz.prog 82 #[.pointer (some ⟨b, 0, none⟩), .func (.func 87) #[] #[]] w (OpPost (twoR f st) B b ev av iv most sv ov bytes lb w) := by
  rcases top2_cases st with ⟨h1, h2⟩ | ⟨s1, x, y, rfl⟩
  · have hr : twoR f st = .error 40 := by simp [twoR, h1]
    rw [hr]
    go_enter Tryz.func82, Tryz.ntmps82
    go_wp2_with (go_at_call 77; refine (vm_take_few h 2 (by omega) (by decide)).mono ?_; rintro e w1 ⟨rfl, rfl⟩)
    go_ret
    exact ⟨rfl, _, Moved.refl _ _ _⟩
  · have hx := hbig x (by simp)
    have hy := hbig y (by simp)
    go_enter Tryz.func82, Tryz.ntmps82
    go_wp2_with (go_at_call 77; refine (vm_take s1 [x, y] h (by simp) hst 2 rfl).mono ?_)
    rintro e w1 ⟨g, c, sv', rfl, ⟨hg0, hg1, hg2, hg3⟩, hc, hm, hmv⟩
    have c0 := hc 0 x rfl
    have c1 := hc 1 y rfl
    have hs1 : s1.length ≤ 1000 := by simp at hst; omega
    have hgl : Glob w1 := hg.below (hmv.below h.base (fun k hk => (h.stk.lt k hk).1) (by have := h.lt; have := h.base; omega)) hB
    go_wp2
    have hr : twoR f (s1 ++ [x, y]) = putR s1 [f x y] := by simp [twoR, top2_snoc]
    have hfc := hf x y hx hy w1.drew (hgl.grown (Below.refl _ _).drew)
    clear hf
    go_region_held3 (fun w' => w'.cell? ⟨g, 0, none⟩ = some (.string (bs x)) ∧ w'.cell? ⟨g, 1, none⟩ = some (.string (bs y))) (first | go_keep | exact ⟨(hb.cell hg1).trans c0, (hb.cell hg1).trans c1⟩ | exact ⟨(OpState.cell hq (Nat.lt_of_lt_of_le hg1 hb.size) hg2 hg3).trans ((hb.cell hg1).trans c0), (OpState.cell hq (Nat.lt_of_lt_of_le hg1 hb.size) hg2 hg3).trans ((hb.cell hg1).trans c1)⟩) (first | (go_at_call 87; refine hfc.mono ?_; rintro e w2 ⟨rfl, hb⟩; replace hb : Below w1.heap.size w1 w2 := (Below.refl _ _).drew.trans hb) | (go_at_call 34; go_loud (refine (vm_put_new (w := w2) [f x y] 1 1 (hm.kept hb) (by simp) hs1 (((Below.refl _ _).alloc (Nat.le_refl _) _)) (heap_alloc_new w2 _) rfl).mono ?_); rintro e w3 ⟨rfl, hq⟩))
    go_wp2
    go_ret
    rw [hr]
    exact ⟨rfl, OpPost.moved hq (hmv.trans (Moved.of_below hb))⟩
set_option maxHeartbeats 1000000 in
set_option maxRecDepth 100000 in
theorem vm_sub (hg : Glob w) (h : Mac B b ev av iv most sv st ov bytes lb w) (hB : Tryz.prog.globals.size ≤ B) (hst : st.length ≤ 1000) (hbig : ∀ x ∈ st, x.length ≤ 1000000) (s : ByteArray) :
    Calls Tryz.prog 49 #[.pointer (some ⟨b, 0, none⟩), .string s] w (OpPost (twoR (fun x y => Lib.itoa (numF x - numF y)) st) B b ev av iv most sv ov bytes lb w) := by
  go_enter Tryz.func49, Tryz.ntmps49
  go_wp2_with (go_at_call 82; refine (vm_two_sub (fun x y => Lib.itoa (numF x - numF y)) hg h hB hst hbig (fun x y hx hy w hg => fn_sub x y hx hy hg)).mono ?_; rintro e w1 ⟨rfl, hq⟩)
  go_ret
  exact ⟨rfl, hq⟩
end
end Go.Proofs.YtejpkjcjoengbaaGreatDoor
