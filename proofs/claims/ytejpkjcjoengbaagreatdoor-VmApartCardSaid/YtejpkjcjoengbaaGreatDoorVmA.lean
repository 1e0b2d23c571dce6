/-
  package vm: the machine in memory; take and put, by walk.
-/
import Derived.Test.YtejpkjcjoengbaaGreatDoorLexF
set_option linter.unusedVariables false
set_option linter.unusedSimpArgs false
namespace Go.Proofs.YtejpkjcjoengbaaGreatDoor
open Go.RowKit

abbrev strCells (l : List (List UInt8)) : List Value := l.map fun x => .string (bs x)

/-- The machine: what its block holds, and its stack's row. -/
structure Mac (B b : Nat) (ev av iv : Value) (most : Int) (sv : Value) (st : List (List UInt8)) (ov : Value) (bytes : Int) (lb : List UInt8) (w : World) : Prop where
  base : B ≤ b
  blk : w.heap[b]? = some (.cells #[ev, av, iv, .int .i64 most, sv, ov, .int .i64 bytes, .string (bs lb)] 56 (0, 0))
  stk : w.ownsRow B 9 1 sv st.length (strCells st)

/-- Nothing but block b, the row of the stack, and what is new, has turned. -/
structure Moved (b : Nat) (sv sv' : Value) (w w' : World) : Prop where
  os : w'.os = w.os
  tape : w'.tape = w.tape
  output : w'.output = w.output
  size : w.heap.size ≤ w'.heap.size
  block : ∀ k, k < w.heap.size → k ≠ b → sv.ownBlock ≠ some k → w'.heap[k]? = w.heap[k]?
  fresh : ∀ k, sv'.ownBlock = some k → sv.ownBlock = some k ∨ w.heap.size ≤ k

theorem Moved.refl (b : Nat) (sv : Value) (w : World) : Moved b sv sv w w := ⟨rfl, rfl, rfl, Nat.le_refl _, fun _ _ _ _ => rfl, fun _ h => .inl h⟩
theorem Moved.trans {b : Nat} {s1 s2 s3 : Value} {w1 w2 w3 : World} (h : Moved b s1 s2 w1 w2) (k : Moved b s2 s3 w2 w3) : Moved b s1 s3 w1 w3 where
  os := k.os.trans h.os
  tape := k.tape.trans h.tape
  output := k.output.trans h.output
  size := Nat.le_trans h.size k.size
  block j hj hb hs := by
    rw [k.block j (Nat.lt_of_lt_of_le hj h.size) hb (fun e => by
      rcases h.fresh j e with h1 | h1
      · exact hs h1
      · omega)]
    exact h.block j hj hb hs
  fresh j hj := by
    rcases k.fresh j hj with h1 | h1
    · exact h.fresh j h1
    · exact .inr (Nat.le_trans h.size h1)
theorem Moved.below {B b : Nat} {sv sv' : Value} {w w' : World} (h : Moved b sv sv' w w') (hb : B ≤ b) (hs : ∀ k, sv.ownBlock = some k → B ≤ k) (hB : B ≤ w.heap.size) : Below B w w' :=
  ⟨h.os, h.tape, h.output, h.size, fun k hk => h.block k (by omega) (by omega) (fun e => by have := hs k e; omega)⟩
theorem Moved.of_below {b : Nat} {sv : Value} {w w' : World} (h : Below w.heap.size w w') : Moved b sv sv w w' :=
  ⟨h.os, h.tape, h.output, h.size, fun k hk _ _ => h.block k hk, fun _ h => .inl h⟩
theorem Mac.lt {B b : Nat} {ev av iv : Value} {most : Int} {sv : Value} {st : List (List UInt8)} {ov : Value} {bytes : Int} {lb : List UInt8} {w : World} (h : Mac B b ev av iv most sv st ov bytes lb w) : b < w.heap.size := (Array.getElem?_eq_some_iff.1 h.blk).1
theorem Mac.ne {B b : Nat} {ev av iv : Value} {most : Int} {sv : Value} {st : List (List UInt8)} {ov : Value} {bytes : Int} {lb : List UInt8} {w : World} (h : Mac B b ev av iv most sv st ov bytes lb w) : sv.ownBlock ≠ some b :=
  Lib.ownBlock_ne h.stk h.blk (by decide)
theorem Mac.kept {B b : Nat} {ev av iv : Value} {most : Int} {sv : Value} {st : List (List UInt8)} {ov : Value} {bytes : Int} {lb : List UInt8} {w w' : World} (h : Mac B b ev av iv most sv st ov bytes lb w) (hb : Below w.heap.size w w') : Mac B b ev av iv most sv st ov bytes lb w' :=
  ⟨h.base, (hb.block b h.lt).trans h.blk, own_below h.stk hb⟩
theorem Mac.cell {B b : Nat} {ev av iv : Value} {most : Int} {sv : Value} {st : List (List UInt8)} {ov : Value} {bytes : Int} {lb : List UInt8} {w : World} (h : Mac B b ev av iv most sv st ov bytes lb w) (j : Nat) :
    w.cell? ⟨b, j, none⟩ = (#[ev, av, iv, .int .i64 most, sv, ov, .int .i64 bytes, .string (bs lb)] : Array Value)[j]? := Lib.cell_of_heap h.blk j
theorem Mac.frozen {B b : Nat} {ev av iv : Value} {most : Int} {sv : Value} {st : List (List UInt8)} {ov : Value} {bytes : Int} {lb : List UInt8} {w : World} (h : Mac B b ev av iv most sv st ov bytes lb w) (j : Nat) : w.frozen? ⟨b, j, none⟩ = false := Lib.frozen_of_heap h.blk j
/-- Another stack laid into its slot. -/
theorem Mac.put {B b : Nat} {ev av iv : Value} {most : Int} {sv sv' : Value} {st' : List (List UInt8)} {ov : Value} {bytes : Int} {lb : List UInt8} {w : World} (h : w.heap[b]? = some (.cells #[ev, av, iv, .int .i64 most, sv, ov, .int .i64 bytes, .string (bs lb)] 56 (0, 0))) (hB : B ≤ b)
    (hs : w.ownsRow B 9 1 sv' st'.length (strCells st')) : Mac B b ev av iv most sv' st' ov bytes lb (w.setCell ⟨b, 4, none⟩ sv') := by
  refine ⟨hB, set_same h rfl, ?_⟩
  have hne := Lib.ownBlock_ne hs h (by decide)
  exact hs.kept (row := some b) ⟨rfl, rfl, rfl, by simp [World.setCell], fun k _ hk => Below.heap_setCell _ _ _ _ (fun e => hk (by simp [e]))⟩ (Or.inr hne)
/-- The label to go on at. -/
theorem Mac.go {B b : Nat} {ev av iv : Value} {most : Int} {sv : Value} {st : List (List UInt8)} {ov : Value} {bytes : Int} {lb : List UInt8} {w : World} (h : Mac B b ev av iv most sv st ov bytes lb w) (lb' : List UInt8) :
    Mac B b ev av iv most sv st ov bytes lb' (w.setCell ⟨b, 7, none⟩ (.string (bs lb'))) ∧ Moved b sv sv w (w.setCell ⟨b, 7, none⟩ (.string (bs lb'))) := by
  refine ⟨⟨h.base, set_same h.blk rfl, h.stk.kept (row := some b) ⟨rfl, rfl, rfl, by simp [World.setCell], fun k _ hk => Below.heap_setCell _ _ _ _ (fun e => hk (by simp [e]))⟩ (Or.inr h.ne)⟩, rfl, rfl, rfl, by simp [World.setCell], fun k hk hb _ => Below.heap_setCell _ _ _ _ hb, fun _ h => .inl h⟩

theorem own_pop {w : World} {B n k : Nat} {A : Option Addr} {c : Nat} {xs ys : List Value} (h : w.ownsRow B 9 1 (.slice A n c) n (xs ++ ys)) (hk : xs.length = k) (hy : 0 < ys.length) : w.ownsRow B 9 1 (.slice A k c) k xs := by
  obtain ⟨h1, h2⟩ := h
  rw [List.length_append] at h1
  rcases h2 with ⟨_, h0⟩ | ⟨g, cap, cur, hv, hb, hg, hn, hm, hs, ht⟩
  · omega
  · injection hv with e1 e2 e3
    subst e1 e3
    refine ⟨by omega, .inr ⟨g, c, cur, rfl, hb, hg, by omega, hm, hs, ?_⟩⟩
    have : (cur.toList.take (n * 1)).take (k * 1) = (xs ++ ys).take (k * 1) := by rw [ht]
    rw [List.take_take, Nat.min_eq_left (by omega)] at this
    rw [this, Nat.mul_one, ← hk, List.take_left]

/-- What take(n) tells, where there is enough. -/
def TakePost (B b : Nat) (ev av iv : Value) (most : Int) (sv : Value) (s1 l : List (List UInt8)) (ov : Value) (bytes : Int) (lb : List UInt8) (w : World) (e : Ending) (w' : World) : Prop :=
  ∃ g c sv', e = .returned (.tuple #[.slice (some ⟨g, 0, none⟩) l.length c, .nilIface]) ∧ (w.heap.size ≤ g ∧ g < w'.heap.size ∧ g ≠ b ∧ sv'.ownBlock ≠ some g) ∧ (∀ (j : Nat) x, l[j]? = some x → w'.cell? ⟨g, j, none⟩ = some (.string (bs x))) ∧
    Mac B b ev av iv most sv' s1 ov bytes lb w' ∧ Moved b sv sv' w w'

set_option maxHeartbeats 1000000 in
set_option maxRecDepth 100000 in
theorem vm_take {B b : Nat} {ev av iv : Value} {most : Int} {sv : Value} {ov : Value} {bytes : Int} {lb : List UInt8} {w : World} (s1 l : List (List UInt8)) (h : Mac B b ev av iv most sv (s1 ++ l) ov bytes lb w) (hl : 0 < l.length) (hbig : (s1 ++ l).length ≤ 1000) (n : Int) (hn : n = l.length) :
    Calls Tryz.prog 77 #[.pointer (some ⟨b, 0, none⟩), .int .i64 n] w (TakePost B b ev av iv most sv s1 l ov bytes lb w) := by
  subst hn
  have hstk := h.stk
  rw [List.length_append] at hbig
  obtain ⟨g, cap, rfl, hcap⟩ : ∃ g cap, sv = .slice (some ⟨g, 0, none⟩) (s1.length + l.length) cap ∧ s1.length + l.length ≤ cap := by
    rcases hstk.2 with ⟨_, h0⟩ | ⟨g, cap, cur, hv, _, _, hn, _⟩
    · simp at h0; simp [h0] at hl
    · exact ⟨g, cap, by rw [hv, List.length_append], by rw [List.length_append] at hn; exact hn⟩
  have hcl : ∀ j, j < (l.map bs).length → w.cell? ⟨g, s1.length + j, none⟩ = some (.string ((l.map bs).getD j ByteArray.empty)) := by
    intro j hj
    rw [List.length_map] at hj
    have := hstk.cells (g := g) rfl (s1.length + j) (.string (bs (l[j]'hj))) (by simp [hj])
    rw [add_plain] at this
    rw [this]
    simp [hj]
  have HC := Lib.hid hcl
  have c4 := h.cell 4
  simp at c4
  have f4 := h.frozen 4
  have hlt := h.lt
  have hblk := h.blk
  have HBL := Lib.hid hblk
  clear hcl hblk
  go_enter Tryz.func77, Tryz.ntmps77
  go_wp2_with (go_at_call 113; refine (Tryz.slices_Clone_string g s1.length l.length (cap - s1.length) (l.map bs) w (by simp) (by omega) HC.out).mono ?_)
  rintro e w1 ⟨v', rfl, hown, hnn, hb⟩
  obtain ⟨g', c', rfl⟩ : ∃ g' c', v' = .slice (some ⟨g', 0, none⟩) l.length c' := by
    rcases hown.2 with ⟨hv, _⟩ | ⟨g', c', cur, hv, _⟩
    · exact absurd hv hnn
    · exact ⟨g', c', hv⟩
  have hg' := (hown.lt g' rfl)
  have hm := h.kept hb
  have d4 := hm.cell 4
  simp at d4
  have e4 := hm.frozen 4
  go_wp2
  go_ret2
  have hpop : w1.ownsRow B 9 1 (.slice (some ⟨g, 0, none⟩) s1.length cap) s1.length (strCells s1) := by
    have hs := hm.stk
    rw [List.length_append] at hs
    refine own_pop (n := s1.length + l.length) (ys := strCells l) ?_ (by simp) (by simpa using hl)
    simpa [strCells] using hs
  refine ⟨g', c', .slice (some ⟨g, 0, none⟩) s1.length cap, rfl, ⟨hg'.1, by simpa [World.setCell] using hg'.2, by omega, fun e => ?_⟩, fun j x hx => ?_, Mac.put hm.blk hm.base hpop, ?_⟩
  · have h1 := h.stk.lt g rfl
    have h2 : g = g' := by simpa [Value.ownBlock] using e
    omega
  · rw [World.cell?_of_block (Below.heap_setCell _ _ _ _ (by
      have := hlt
      show g' ≠ b
      omega))]
    have := hown.cells (g := g') rfl j (.string (bs x)) (by rw [List.take_of_length_le (by simp)]; simp [hx])
    rw [add_plain] at this
    exact this
  · exact ⟨hb.os, hb.tape, hb.output, by simpa [World.setCell] using hb.size, fun k hk hkb _ => (Below.heap_setCell _ _ _ _ hkb).trans (hb.block k hk), fun _ h => .inl h⟩

/-- take where there is too little. -/
theorem vm_take_few {B b : Nat} {ev av iv : Value} {most : Int} {sv : Value} {ov : Value} {bytes : Int} {lb : List UInt8} {w : World} {st : List (List UInt8)} (h : Mac B b ev av iv most sv st ov bytes lb w) (n : Int) (hn : (st.length : Int) < n) (hn2 : n ≤ 1000) :
    Calls Tryz.prog 77 #[.pointer (some ⟨b, 0, none⟩), .int .i64 n] w fun e w' => e = .returned (.tuple #[.slice none 0 0, .iface 62 (.agg #[.int .i64 40])]) ∧ w = w' := by
  obtain ⟨A, cp, rfl⟩ := own_slice h.stk
  have c4 := h.cell 4
  simp at c4
  have hl : (st.length : Int) ≤ 1000 := by omega
  have hl2 : st.length ≤ 1000 := by omega
  go_enter Tryz.func77, Tryz.ntmps77
  go_wp2
  go_ret2
  exact ⟨rfl, rfl⟩
end Go.Proofs.YtejpkjcjoengbaaGreatDoor
