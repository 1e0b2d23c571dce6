/-
  package vm: what a builder sees of its arguments, by walk.
-/
import Derived.Test.YtejpkjcjoengbaaGreatDoorVmG
set_option linter.unusedVariables false
set_option linter.unusedSimpArgs false
namespace Go.Proofs.YtejpkjcjoengbaaGreatDoor
open Go.RowKit

section
variable {B b : Nat} {ev av iv : Value} {most : Int} {sv : Value} {ov : Value} {bytes : Int} {lb : List UInt8} {w : World} {st : List (List UInt8)}

def argR (l : List (List UInt8)) (st : List (List UInt8)) : ORes := match top1 st with | none => .error 40 | some (s, x) => if 0 ≤ numF x then (match l[(numF x).toNat]? with | some y => putR s [y] | none => .error 44) else .error 44

set_option maxHeartbeats 1000000 in
set_option maxRecDepth 100000 in
theorem vm_arg (l : List (List UInt8)) (hl : HeldRow B av l.length (strCells l) w) (hg : Glob w) (h : Mac B b ev av iv most sv st ov bytes lb w) (hB : Tryz.prog.globals.size ≤ B) (hst : st.length ≤ 1000) (hbig : ∀ x ∈ st, x.length ≤ 1000000) (s : ByteArray) :
    Calls Tryz.prog 39 #[.pointer (some ⟨b, 0, none⟩), .string s] w (OpPost (argR l st) B b ev av iv most sv ov bytes lb w) := by
  rcases top1_cases st with ⟨h1, rfl⟩ | ⟨s1, x, rfl⟩
  · go_enter Tryz.func39, Tryz.ntmps39
    go_wp2_with (go_at_call 77; refine (vm_take_few h 1 (by simp) (by decide)).mono ?_; rintro e w1 ⟨rfl, rfl⟩)
    go_ret
    exact ⟨rfl, _, Moved.refl _ _ _⟩
  · have hr : argR l (s1 ++ [x]) = if 0 ≤ numF x then (match l[(numF x).toNat]? with | some y => putR s1 [y] | none => .error 44) else .error 44 := by simp [argR, top1_snoc]
    have HR := Lib.hid hr
    generalize argR l (s1 ++ [x]) = res at *
    clear hr
    have hx := hbig x (by simp)
    have bx := numF_bound x
    obtain ⟨hn, A, c, rfl, hA⟩ := hl
    go_enter Tryz.func39, Tryz.ntmps39
    go_wp2_with (go_at_call 77; refine (vm_take s1 [x] h (by simp) hst 1 rfl).mono ?_)
    rintro e w1 ⟨g0, c0', sv', rfl, ⟨hg0, hg1, hg2, hg3⟩, hc, hm, hmv⟩
    have c0 := hc 0 x rfl
    have hs1 : s1.length ≤ 1000 := by simp at hst; omega
    have hbB := hmv.below h.base (fun k hk => (h.stk.lt k hk).1) (by have := h.lt; have := h.base; omega)
    have hBw : B ≤ w1.heap.size := Nat.le_trans hm.base (Nat.le_of_lt hm.lt)
    have hgl : Glob w1 := hg.below hbB hB
    clear hc
    go_wp2_with (go_at_call 78; refine (vm_number x hx hgl).mono ?_)
    rintro e w2 ⟨rfl, hb2⟩
    have hm2 := hm.kept hb2
    have e0 := hm2.cell 1
    simp at e0
    generalize hnf : numF x = n at *
    by_cases h0 : 0 ≤ n
    · by_cases hlt : n < l.length
      · obtain ⟨k, rfl⟩ : ∃ k : Nat, n = k := ⟨n.toNat, by omega⟩
        have hk : k < l.length := by omega
        obtain ⟨g, o, rfl, hgB, hcs⟩ := hA (by omega)
        have p0 : w2.cell? ⟨g, o + k, none⟩ = some (.string (bs l[k])) := (hb2.cell (p := ⟨g, o + k, none⟩) (show g < w1.heap.size by omega)).trans ((hbB.cell (p := ⟨g, o + k, none⟩) hgB).trans (hcs _ _ (by simp [strCells, hk])))
        have HR2 : Hid (res = putR s1 [l[k]]) := Lib.hid (by rw [HR.out]; simp [hk])
        clear HR hcs hA
        generalize l[k] = y at *
        go_wp2_with (go_at_call 34; go_loud (refine (vm_put_new (w := w2) [y] 1 1 hm2 (by simp) hs1 (((Below.refl w2.heap.size w2).alloc (Nat.le_refl _) _)) (heap_alloc_new w2 _) rfl).mono ?_); rintro e w3 ⟨rfl, hq⟩)
        go_ret
        rw [HR2.out]
        exact ⟨rfl, OpPost.moved hq (hmv.trans (Moved.of_below hb2))⟩
      · have HR2 : Hid (res = .error 44) := Lib.hid (by rw [HR.out, if_pos h0, List.getElem?_eq_none (by omega)])
        clear HR
        go_wp2
        go_ret
        rw [HR2.out]
        exact ⟨rfl, _, hmv.trans (Moved.of_below hb2)⟩
    · have HR2 : Hid (res = .error 44) := Lib.hid (by rw [HR.out, if_neg h0])
      clear HR
      go_wp2
      go_ret
      rw [HR2.out]
      exact ⟨rfl, _, hmv.trans (Moved.of_below hb2)⟩
end
end Go.Proofs.YtejpkjcjoengbaaGreatDoor
