/-
  package vm: what a builder sees of its environment and its arguments, by walk.
-/
import Derived.Test.YtejpkjcjoengbaaGreatDoorVmF
set_option linter.unusedVariables false
set_option linter.unusedSimpArgs false
namespace Go.Proofs.YtejpkjcjoengbaaGreatDoor
open Go.RowKit

/-- A row of n elements that lies below B, and what its cells hold. -/
def HeldRow (B : Nat) (v : Value) (n : Nat) (cells : List Value) (w : World) : Prop :=
  n ≤ 1000000000000 ∧ ∃ A c, v = .slice A n c ∧ (0 < n → ∃ g o, A = some ⟨g, o, none⟩ ∧ g < B ∧ ∀ (j : Nat) x, cells[j]? = some x → w.cell? ⟨g, o + j, none⟩ = some x)
theorem HeldRow.below {B : Nat} {v : Value} {n : Nat} {cells : List Value} {w w' : World} (h : HeldRow B v n cells w) (hb : Below B w w') : HeldRow B v n cells w' := by
  obtain ⟨hn, A, c, rfl, h⟩ := h
  refine ⟨hn, A, c, rfl, fun h0 => ?_⟩
  obtain ⟨g, o, rfl, hg, hc⟩ := h h0
  exact ⟨g, o, rfl, hg, fun j x hx => (hb.cell hg).trans (hc j x hx)⟩

abbrev Pairs := List (List UInt8 × List UInt8)
def pairCells (l : Pairs) : List Value := l.flatMap fun p => [.string (bs p.1), .string (bs p.2)]
theorem pairCells_at (l : Pairs) (k : Nat) (h : k < l.length) : (pairCells l)[2 * k]? = some (.string (bs l[k].1)) ∧ (pairCells l)[2 * k + 1]? = some (.string (bs l[k].2)) := by
  induction l generalizing k with
  | nil => simp at h
  | cons p l ih =>
    cases k with
    | zero => simp [pairCells]
    | succ k =>
      have := ih k (by simpa using h)
      simpa [pairCells, Nat.mul_add, Nat.mul_succ] using this

section
variable {B b : Nat} {ev av iv : Value} {most : Int} {sv : Value} {ov : Value} {bytes : Int} {lb : List UInt8} {w : World} {st : List (List UInt8)}

/-- put of texts that lie in a row that is new. -/
theorem vm_put_at {B b : Nat} {ev av iv : Value} {most : Int} {sv : Value} {ov : Value} {bytes : Int} {lb : List UInt8} {w W : World} {st : List (List UInt8)} (xs : List (List UInt8)) (g n c : Nat) (h : Mac B b ev av iv most sv st ov bytes lb w) (hxl : xs.length ≤ 1000) (hst : st.length ≤ 1000)
    (hb : Below w.heap.size w W) (hgw : w.heap.size ≤ g) (hk : W.heap[g]? = some (.cells (strCells xs).toArray 9 (0, 0))) (hn : n = xs.length) :
    Calls Tryz.prog 34 #[.pointer (some ⟨b, 0, none⟩), .slice (some ⟨g, 0, none⟩) n c] W (OpPost (putR st xs) B b ev av iv most sv ov bytes lb w) := by
  have hlt := (Array.getElem?_eq_some_iff.1 hk).1
  refine (vm_put xs g c (h.kept hb) hlt (by have := h.lt; omega) (fun e => by have := h.stk.lt _ e; omega) (fun j x hx => ?_) hxl hst n hn).mono fun e w' hp => OpPost.of_put hp (Moved.of_below hb)
  have := cell_at hk j (.string (bs x)) (by simp [strCells, hx])
  rw [add_plain] at this
  exact this

def envR (l : Pairs) (st : List (List UInt8)) : ORes := match top1 st with | none => .error 40 | some (s, x) => match l.find? (fun p => p.1 == x) with | some p => putR s [p.2] | none => .error 44

theorem find_drop (l : Pairs) (x : List UInt8) (k : Nat) (h : k < l.length) : (l.drop k).find? (fun p => p.1 == x) = if l[k].1 = x then some l[k] else (l.drop (k + 1)).find? (fun p => p.1 == x) := by
  rw [List.drop_eq_getElem_cons h, List.find?_cons]
  by_cases h : l[k].1 = x
  · simp [h]
  · rw [if_neg h]; have : (l[k].1 == x) = false := by simp [h]
    rw [this]

set_option maxHeartbeats 1000000 in
set_option maxRecDepth 100000 in
theorem vm_env (l : Pairs) (hl : HeldRow B ev l.length (pairCells l) w) (h : Mac B b ev av iv most sv st ov bytes lb w) (hst : st.length ≤ 1000) (s : ByteArray) :
    Calls Tryz.prog 38 #[.pointer (some ⟨b, 0, none⟩), .string s] w (OpPost (envR l st) B b ev av iv most sv ov bytes lb w) := by
  rcases top1_cases st with ⟨h1, rfl⟩ | ⟨s1, x, rfl⟩
  · go_enter Tryz.func38, Tryz.ntmps38
    go_wp2_with (go_at_call 77; refine (vm_take_few h 1 (by simp) (by decide)).mono ?_; rintro e w1 ⟨rfl, rfl⟩)
    go_ret
    exact ⟨rfl, _, Moved.refl _ _ _⟩
  · have hr : envR l (s1 ++ [x]) = match l.find? (fun p => p.1 == x) with | some p => putR s1 [p.2] | none => .error 44 := by simp [envR, top1_snoc]
    have HR := Lib.hid hr
    generalize envR l (s1 ++ [x]) = res at *
    clear hr
    have hlb := hl
    obtain ⟨hn, A, c, rfl, hA⟩ := hl
    go_enter Tryz.func38, Tryz.ntmps38
    go_wp2_with (go_at_call 77; refine (vm_take s1 [x] h (by simp) hst 1 rfl).mono ?_)
    rintro e w1 ⟨g0, c0', sv', rfl, ⟨hg0, hg1, hg2, hg3⟩, hc, hm, hmv⟩
    have c0 := hc 0 x rfl
    have e0 := hm.cell 0
    simp at e0
    have hs1 : s1.length ≤ 1000 := by simp at hst; omega
    have hbB := hmv.below h.base (fun k hk => (h.stk.lt k hk).1) (by have := h.lt; have := h.base; omega)
    have hBw : B ≤ w1.heap.size := Nat.le_trans hm.base (Nat.le_of_lt hm.lt)
    clear hc
    go_wp2
    go_loopw [23] (fun i wr => ∃ k : Nat, k ≤ l.length ∧ i = .int .i64 k ∧ l.find? (fun p => p.1 == x) = (l.drop k).find? (fun p => p.1 == x) ∧ Below w1.heap.size w1 wr) (fun i wr => l.length - (intOf i).toNat)
    case atStart => exact ⟨0, Nat.zero_le _, rfl, rfl, Below.refl _ _⟩
    case round =>
      obtain ⟨k, hk, rfl, hfind, hbr⟩ := hrel
      by_cases hlt : k < l.length
      · obtain ⟨g, o, rfl, hgB, hcs⟩ := hA (by omega)
        have hp := pairCells_at l k hlt
        have p0 : wr.cell? ⟨g, o + k * 2, none⟩ = some (.string (bs l[k].1)) := (hbr.cell (p := ⟨g, o + k * 2, none⟩) (show g < w1.heap.size by omega)).trans ((hbB.cell (p := ⟨g, o + k * 2, none⟩) hgB).trans (by rw [Nat.mul_comm]; exact hcs _ _ hp.1))
        have p1 : wr.cell? ⟨g, o + k * 2 + 1, none⟩ = some (.string (bs l[k].2)) := (hbr.cell (p := ⟨g, o + k * 2 + 1, none⟩) (show g < w1.heap.size by omega)).trans ((hbB.cell (p := ⟨g, o + k * 2 + 1, none⟩) hgB).trans (by rw [Nat.mul_comm, Nat.add_assoc]; exact hcs _ _ hp.2))
        have c0r := (hbr.cell (p := ⟨g0, 0, none⟩) hg1).trans c0
        rw [find_drop l x k hlt] at hfind
        generalize l[k] = p at *
        obtain ⟨p1', p2'⟩ := p
        have HK := Lib.hid hfind
        clear hfind hp hcs hA
        have hg1r : g0 < wr.heap.size := Nat.lt_of_lt_of_le hg1 hbr.size
        have hbn : Below wr.heap.size wr (wr.alloc (.cells #[.string (bs p1'), .string (bs p2')] 46)).drew := ((Below.refl wr.heap.size wr).alloc (Nat.le_refl _) _).drew
        have c0a : (wr.alloc (.cells #[.string (bs p1'), .string (bs p2')] 46)).cell? ⟨g0, 0, none⟩ = some (.string (bs x)) := (((Below.refl wr.heap.size wr).alloc (Nat.le_refl _) _).cell (p := ⟨g0, 0, none⟩) hg1r).trans c0r
        have hm1 := hm.kept hbr
        have hm2 := hm1.kept hbn
        clear c0 c0r
        by_cases hpx : p1' = x
        · subst hpx
          have HK2 : Hid (List.find? (fun p => p.1 == p1') l = some (p1', p2')) := Lib.hid (by have := HK.out; simpa using this)
          clear HK
          go_wp2
          go_region
          go_wp2_with (go_at_call 34; go_loud (refine (vm_put_at (w := wr) [p2'] (wr.heap.size + 1) 1 1 hm1 (by simp) hs1 (((Below.refl wr.heap.size wr).alloc (Nat.le_refl _) _).alloc (by simp) _).drew (by omega) (heap_alloc2_new wr _ _) rfl).mono ?_); rintro e w3 ⟨rfl, hq⟩)
          go_ret
          have hres : res = putR s1 [p2'] := by rw [HR.out, HK2.out]
          rw [hres]
          exact ⟨rfl, OpPost.moved hq (hmv.trans (Moved.of_below hbr))⟩
        · have hne : (p1' == x) = false := by simp [hpx]
          have HK2 : Hid (List.find? (fun p => p.1 == x) l = (l.drop (k + 1)).find? (fun p => p.1 == x)) := Lib.hid (by have := HK.out; rw [if_neg hpx] at this; exact this)
          clear HK
          go_wp2
          go_region
          go_wp2
          go_roundw
          case rel => exact ⟨k + 1, by omega, by go_num, HK2.out, hbr.trans (hbn.mono hbr.size)⟩
          case measure => simp [intOf]; omega
      · have HK : Hid (List.find? (fun p => p.1 == x) l = none) := Lib.hid (by rw [hfind, List.drop_eq_nil_of_le (by omega)]; rfl)
        clear hfind
        go_wp2
        go_ret
        have hres : res = .error 44 := by rw [HR.out, HK.out]
        rw [hres]
        exact ⟨rfl, _, hmv.trans (Moved.of_below hbr)⟩
end
end Go.Proofs.YtejpkjcjoengbaaGreatDoor
