/-
  A tree of nodes of the call's own: each row in a block of its own, no block twice (of no function); one node in it changed.
-/
import Derived.Test.YtejpkjcjoengbaaGreatDoorNode
set_option linter.unusedVariables false
set_option linter.unusedSimpArgs false
namespace Go.Proofs.YtejpkjcjoengbaaGreatDoor
open Go.RowKit

theorem ownsRow_of_block {w w' : World} {B : Nat} {e : TypeId} {size n : Nat} {v : Value} {xs : List Value} (h : w.ownsRow B e size v n xs) (hk : ∀ k, v.ownBlock = some k → w'.heap[k]? = w.heap[k]?) : w'.ownsRow B e size v n xs := by
  obtain ⟨h1, h2⟩ := h
  refine ⟨h1, ?_⟩
  rcases h2 with h0 | ⟨g, cap, cur, rfl, hb, hg, rest⟩
  · exact .inl h0
  · exact .inr ⟨g, cap, cur, rfl, hb, (hk g rfl).trans hg, rest⟩
theorem ownsRow_slice {w : World} {B : Nat} {e : TypeId} {size n : Nat} {v : Value} {xs : List Value} {F : Nat → Prop} (h : w.ownsRow B e size v n xs) (hF : ∀ k, v.ownBlock = some k → F k) : SliceIs F size v n xs w := by
  have hc := fun g hg => h.cells (g := g) hg
  obtain ⟨h1, h2⟩ := h
  rcases h2 with ⟨rfl, rfl⟩ | ⟨g, cap, cur, rfl, hb, hg, hn, hm, hs, ht⟩
  · exact ⟨Nat.zero_le _, none, 0, rfl, fun h => absurd h (Nat.lt_irrefl _)⟩
  · refine ⟨by omega, some ⟨g, 0, none⟩, cap, rfl, fun _ => ⟨g, 0, rfl, hF g rfl, h1, fun j x hx => ?_⟩⟩
    have := hc g rfl j x hx
    rw [add_plain] at this
    rw [Nat.zero_add]
    exact this

mutual
/-- The five cells of a node all of whose rows are the call's own: they lie in just the blocks F. -/
def NdO (B : Nat) (w : World) : Nd → (Nat → Prop) → List Value → Prop
  | .mk k e d na ns, F, cells => ∃ (dv nv sv : Value) (Fd Fs : Nat → Prop) (cs : List Value), cells = [.int .i64 k, .bool e, dv, nv, sv] ∧ SliceIs Fd 1 dv d.length (byteCells d) w ∧ (∀ j, Fd j → B ≤ j ∧ j < w.heap.size) ∧
      w.ownsRow B 9 1 nv na.length (strCells na) ∧ w.ownsRow B 32 5 sv ns.length cs ∧ NdsO B w ns Fs cs ∧
      (∀ j, nv.ownBlock = some j → sv.ownBlock ≠ some j ∧ ¬ Fd j ∧ ¬ Fs j) ∧ (∀ j, sv.ownBlock = some j → ¬ Fd j ∧ ¬ Fs j) ∧ (∀ j, Fd j → ¬ Fs j) ∧
      (∀ j, F j ↔ (Fd j ∨ nv.ownBlock = some j ∨ sv.ownBlock = some j ∨ Fs j))
def NdsO (B : Nat) (w : World) : List Nd → (Nat → Prop) → List Value → Prop
  | [], F, cells => cells = [] ∧ ∀ j, ¬ F j
  | n :: r, F, cells => ∃ (c1 c2 : List Value) (F1 F2 : Nat → Prop), cells = c1 ++ c2 ∧ NdO B w n F1 c1 ∧ NdsO B w r F2 c2 ∧ (∀ j, F1 j → ¬ F2 j) ∧ (∀ j, F j ↔ (F1 j ∨ F2 j))
end

mutual
theorem NdO.lt {B : Nat} {w : World} : ∀ {n : Nd} {F : Nat → Prop} {c : List Value}, NdO B w n F c → ∀ k, F k → B ≤ k ∧ k < w.heap.size
  | .mk k e d na ns, F, c, h, j, hj => by
    simp only [NdO] at h
    obtain ⟨dv, nv, sv, Fd, Fs, cs, _, _, hd, hn, hs, hc, _, _, _, hF⟩ := h
    rcases (hF j).1 hj with h1 | h1 | h1 | h1
    · exact hd j h1
    · exact hn.lt j h1
    · exact hs.lt j h1
    · exact NdsO.lt hc j h1
theorem NdsO.lt {B : Nat} {w : World} : ∀ {l : List Nd} {F : Nat → Prop} {c : List Value}, NdsO B w l F c → ∀ k, F k → B ≤ k ∧ k < w.heap.size
  | [], F, c, h, j, hj => by simp only [NdsO] at h; exact absurd hj (h.2 j)
  | n :: r, F, c, h, j, hj => by
    simp only [NdsO] at h
    obtain ⟨c1, c2, F1, F2, _, h1, h2, _, hF⟩ := h
    rcases (hF j).1 hj with h3 | h3
    · exact NdO.lt h1 j h3
    · exact NdsO.lt h2 j h3
end
mutual
theorem NdO.kept {B : Nat} {w w' : World} (hsz : w.heap.size ≤ w'.heap.size) : ∀ {n : Nd} {F : Nat → Prop} {c : List Value}, NdO B w n F c → (∀ k, F k → w'.heap[k]? = w.heap[k]?) → NdO B w' n F c
  | .mk k e d na ns, F, c, h, hk => by
    simp only [NdO] at h ⊢
    obtain ⟨dv, nv, sv, Fd, Fs, cs, h1, h2, h3, h4, h5, h6, h7, h8, h9, hF⟩ := h
    exact ⟨dv, nv, sv, Fd, Fs, cs, h1, h2.kept (fun j hj => hk j ((hF j).2 (.inl hj))), fun j hj => ⟨(h3 j hj).1, Nat.lt_of_lt_of_le (h3 j hj).2 hsz⟩,
      ownsRow_of_block h4 (fun j hj => hk j ((hF j).2 (.inr (.inl hj)))), ownsRow_of_block h5 (fun j hj => hk j ((hF j).2 (.inr (.inr (.inl hj))))), NdsO.kept hsz h6 (fun j hj => hk j ((hF j).2 (.inr (.inr (.inr hj))))), h7, h8, h9, hF⟩
theorem NdsO.kept {B : Nat} {w w' : World} (hsz : w.heap.size ≤ w'.heap.size) : ∀ {l : List Nd} {F : Nat → Prop} {c : List Value}, NdsO B w l F c → (∀ k, F k → w'.heap[k]? = w.heap[k]?) → NdsO B w' l F c
  | [], F, c, h, hk => by simp only [NdsO] at h ⊢; exact h
  | n :: r, F, c, h, hk => by
    simp only [NdsO] at h ⊢
    obtain ⟨c1, c2, F1, F2, h1, h2, h3, h4, hF⟩ := h
    exact ⟨c1, c2, F1, F2, h1, NdO.kept hsz h2 (fun j hj => hk j ((hF j).2 (.inl hj))), NdsO.kept hsz h3 (fun j hj => hk j ((hF j).2 (.inr hj))), h4, hF⟩
end
mutual
theorem NdO.is {B : Nat} {w : World} : ∀ {n : Nd} {F : Nat → Prop} {c : List Value}, NdO B w n F c → NdIs F w n c
  | .mk k e d na ns, F, c, h => by
    simp only [NdO] at h
    simp only [NdIs]
    obtain ⟨dv, nv, sv, Fd, Fs, cs, h1, h2, h3, h4, h5, h6, h7, h8, h9, hF⟩ := h
    exact ⟨dv, nv, sv, h1, h2.mono (fun j hj => (hF j).2 (.inl hj)), ownsRow_slice h4 (fun j hj => (hF j).2 (.inr (.inl hj))), cs, ownsRow_slice h5 (fun j hj => (hF j).2 (.inr (.inr (.inl hj)))),
      (NdsO.is h6).mono (fun j hj => (hF j).2 (.inr (.inr (.inr hj))))⟩
theorem NdsO.is {B : Nat} {w : World} : ∀ {l : List Nd} {F : Nat → Prop} {c : List Value}, NdsO B w l F c → NdsIs F w l c
  | [], F, c, h => by simp only [NdsO] at h; simp only [NdsIs]; exact h.1
  | n :: r, F, c, h => by
    simp only [NdsO] at h
    simp only [NdsIs]
    obtain ⟨c1, c2, F1, F2, h1, h2, h3, h4, hF⟩ := h
    exact ⟨c1, c2, h1, (NdO.is h2).mono (fun j hj => (hF j).2 (.inl hj)), (NdsO.is h3).mono (fun j hj => (hF j).2 (.inr hj))⟩
end
theorem NdO.one {B : Nat} {w : World} {n : Nd} {F : Nat → Prop} {c : List Value} (h : NdO B w n F c) : ∀ v ∈ c, v.oneCell' = true := by
  cases n with
  | mk k e d na ns =>
    simp only [NdO] at h
    obtain ⟨dv, nv, sv, Fd, Fs, cs, rfl, ⟨_, A1, c1, rfl, _⟩, _, ⟨_, h4⟩, ⟨_, h5⟩, _⟩ := h
    obtain ⟨A2, c2, rfl⟩ : ∃ A c, nv = .slice A na.length c := by
      rcases h4 with ⟨h, h0⟩ | ⟨g, cap, cur, h, _⟩
      · exact ⟨none, 0, by rw [h, h0]⟩
      · exact ⟨_, _, h⟩
    obtain ⟨A3, c3, rfl⟩ : ∃ A c, sv = .slice A ns.length c := by
      rcases h5 with ⟨h, h0⟩ | ⟨g, cap, cur, h, _⟩
      · exact ⟨none, 0, by rw [h, h0]⟩
      · exact ⟨_, _, h⟩
    intro v hv
    simp at hv
    rcases hv with rfl | rfl | rfl | rfl | rfl <;> rfl
theorem NdsO.one {B : Nat} {w : World} : ∀ {l : List Nd} {F : Nat → Prop} {c : List Value}, NdsO B w l F c → ∀ v ∈ c, v.oneCell' = true
  | [], F, c, h, v, hv => by simp only [NdsO] at h; rw [h.1] at hv; cases hv
  | n :: r, F, c, h, v, hv => by
    simp only [NdsO] at h
    obtain ⟨c1, c2, F1, F2, rfl, h1, h2, _⟩ := h
    rcases List.mem_append.1 hv with h3 | h3
    · exact h1.one v h3
    · exact NdsO.one h2 v h3
theorem NdO.length {B : Nat} {w : World} {n : Nd} {F : Nat → Prop} {c : List Value} (h : NdO B w n F c) : c.length = 5 := h.is.length
theorem NdsO.length {B : Nat} {w : World} {l : List Nd} {F : Nat → Prop} {c : List Value} (h : NdsO B w l F c) : c.length = l.length * 5 := h.is.length
theorem NdO.iff {B : Nat} {w : World} {n : Nd} {F G : Nat → Prop} {c : List Value} (h : NdO B w n F c) (hG : ∀ k, G k ↔ F k) : NdO B w n G c := by
  cases n with
  | mk k e d na ns =>
    simp only [NdO] at h ⊢
    obtain ⟨dv, nv, sv, Fd, Fs, cs, h1, h2, h3, h4, h5, h6, h7, h8, h9, hF⟩ := h
    exact ⟨dv, nv, sv, Fd, Fs, cs, h1, h2, h3, h4, h5, h6, h7, h8, h9, fun j => (hG j).trans (hF j)⟩

/-- Of many nodes, one: what becomes of them where it is changed. -/
theorem NdsO.set {B : Nat} {w : World} : ∀ {l : List Nd} {F : Nat → Prop} {c : List Value}, NdsO B w l F c → ∀ (j : Nat) (hj : j < l.length), ∃ (Fj : Nat → Prop) (cj : List Value), NdO B w l[j] Fj cj ∧ (c.drop (j * 5)).take 5 = cj ∧ (∀ k, Fj k → F k) ∧
    ∀ (w' : World) (n' : Nd) (F' : Nat → Prop) (c' : List Value), w.heap.size ≤ w'.heap.size → (∀ k, F k → ¬ Fj k → w'.heap[k]? = w.heap[k]?) → NdO B w' n' F' c' → (∀ k, F' k → Fj k ∨ ¬ F k) →
      ∃ G : Nat → Prop, NdsO B w' (l.set j n') G (c.take (j * 5) ++ c' ++ c.drop (j * 5 + 5)) ∧ (∀ k, G k ↔ ((F k ∧ ¬ Fj k) ∨ F' k))
  | [], F, c, h, j, hj => by simp at hj
  | n :: r, F, c, h, 0, hj => by
    simp only [NdsO] at h
    obtain ⟨c1, c2, F1, F2, rfl, h1, h2, h3, hF⟩ := h
    have hl := h1.length
    refine ⟨F1, c1, h1, by rw [Nat.zero_mul, List.drop_zero, ← hl, List.take_left], fun k hk => (hF k).2 (.inl hk), fun w' n' F' c' hsz hk hn hF' => ?_⟩
    refine ⟨fun k => F' k ∨ F2 k, ?_, fun k => ?_⟩
    · simp only [List.set_cons_zero, NdsO]
      refine ⟨c', c2, F', F2, ?_, hn, h2.kept hsz (fun k hk2 => hk k ((hF k).2 (.inr hk2)) (fun e => h3 k e hk2)), fun k hk2 hk3 => ?_, fun k => Iff.rfl⟩
      · rw [Nat.zero_mul, List.take_zero, List.nil_append, Nat.zero_add, ← hl, List.drop_left]
      · rcases hF' k hk2 with h4 | h4
        · exact h3 k h4 hk3
        · exact h4 ((hF k).2 (.inr hk3))
    · constructor
      · rintro (h4 | h4)
        · exact .inr h4
        · exact .inl ⟨(hF k).2 (.inr h4), fun e => h3 k e h4⟩
      · rintro (⟨h4, h5⟩ | h4)
        · rcases (hF k).1 h4 with h6 | h6
          · exact absurd h6 h5
          · exact .inr h6
        · exact .inl h4
  | n :: r, F, c, h, j + 1, hj => by
    simp only [NdsO] at h
    obtain ⟨c1, c2, F1, F2, rfl, h1, h2, h3, hF⟩ := h
    have hl := h1.length
    obtain ⟨Fj, cj, h4, h5, h6, h7⟩ := NdsO.set h2 j (by simpa using hj)
    have hd : (c1 ++ c2).drop ((j + 1) * 5) = c2.drop (j * 5) := by rw [List.drop_append, List.drop_of_length_le (by omega), List.nil_append, hl]; congr 1; omega
    refine ⟨Fj, cj, by simpa using h4, by rw [hd]; exact h5, fun k hk => (hF k).2 (.inr (h6 k hk)), fun w' n' F' c' hsz hk hn hF' => ?_⟩
    obtain ⟨G, h8, h9⟩ := h7 w' n' F' c' hsz (fun k hk2 hk3 => hk k ((hF k).2 (.inr hk2)) hk3) hn (fun k hk2 => (hF' k hk2).elim .inl (fun h => .inr (fun e => h ((hF k).2 (.inr e)))))
    refine ⟨fun k => F1 k ∨ G k, ?_, fun k => ?_⟩
    · simp only [List.set_cons_succ, NdsO]
      refine ⟨c1, _, F1, G, ?_, h1.kept hsz (fun k hk2 => hk k ((hF k).2 (.inl hk2)) (fun e => h3 k hk2 (h6 k e))), h8, fun k hk2 hk3 => ?_, fun k => Iff.rfl⟩
      · have hd2 : (c1 ++ c2).drop ((j + 1) * 5 + 5) = c2.drop (j * 5 + 5) := by rw [List.drop_append, List.drop_of_length_le (by omega), List.nil_append, hl]; congr 1; omega
        have ht : (c1 ++ c2).take ((j + 1) * 5) = c1 ++ c2.take (j * 5) := by rw [List.take_append, List.take_of_length_le (by omega), hl]; congr 2; omega
        rw [hd2, ht]
        simp [List.append_assoc]
      · rcases (h9 k).1 hk3 with ⟨h10, _⟩ | h10
        · exact h3 k hk2 h10
        · rcases hF' k h10 with h11 | h11
          · exact h3 k hk2 (h6 k h11)
          · exact h11 ((hF k).2 (.inl hk2))
    · constructor
      · rintro (h10 | h10)
        · exact .inl ⟨(hF k).2 (.inl h10), fun e => h3 k h10 (h6 k e)⟩
        · rcases (h9 k).1 h10 with ⟨h11, h12⟩ | h11
          · exact .inl ⟨(hF k).2 (.inr h11), h12⟩
          · exact .inr h11
      · rintro (⟨h10, h11⟩ | h10)
        · rcases (hF k).1 h10 with h12 | h12
          · exact .inl h12
          · exact .inr ((h9 k).2 (.inl ⟨h12, h11⟩))
        · exact .inr ((h9 k).2 (.inr h10))

/-- One more among many. -/
theorem NdsO.ins {B : Nat} {w : World} : ∀ {l : List Nd} {F : Nat → Prop} {c : List Value}, NdsO B w l F c → ∀ (j : Nat), j ≤ l.length → ∀ {n : Nd} {F' : Nat → Prop} {c' : List Value}, NdO B w n F' c' → (∀ k, F' k → ¬ F k) →
    NdsO B w (l.take j ++ [n] ++ l.drop j) (fun k => F k ∨ F' k) (c.take (j * 5) ++ c' ++ c.drop (j * 5))
  | l, F, c, h, 0, hj, n, F', c', hn, hd => by
    rw [Nat.zero_mul, List.take_zero, List.take_zero, List.drop_zero, List.drop_zero]
    simp only [List.nil_append, List.cons_append, NdsO]
    exact ⟨c', c, F', F, rfl, hn, h, hd, fun j => Or.comm⟩
  | [], F, c, h, j + 1, hj, n, F', c', hn, hd => by simp at hj
  | m :: r, F, c, h, j + 1, hj, n, F', c', hn, hd => by
    simp only [NdsO] at h
    obtain ⟨c1, c2, F1, F2, rfl, h1, h2, h3, hF⟩ := h
    have hl := h1.length
    have ih := NdsO.ins h2 j (by simpa using hj) hn (fun k hk hk2 => hd k hk ((hF k).2 (.inr hk2)))
    simp only [List.take_succ_cons, List.drop_succ_cons, List.cons_append, NdsO]
    refine ⟨c1, _, F1, _, ?_, h1, ih, fun k hk hk2 => ?_, fun k => ?_⟩
    · have hd2 : (c1 ++ c2).drop ((j + 1) * 5) = c2.drop (j * 5) := by rw [List.drop_append, List.drop_of_length_le (by omega), List.nil_append, hl]; congr 1; omega
      have ht : (c1 ++ c2).take ((j + 1) * 5) = c1 ++ c2.take (j * 5) := by rw [List.take_append, List.take_of_length_le (by omega), hl]; congr 2; omega
      rw [hd2, ht]
      simp [List.append_assoc]
    · rcases hk2 with h4 | h4
      · exact h3 k hk h4
      · exact hd k h4 ((hF k).2 (.inl hk))
    · constructor
      · rintro (h4 | h4)
        · rcases (hF k).1 h4 with h5 | h5
          · exact .inl h5
          · exact .inr (.inl h5)
        · exact .inr (.inr h4)
      · rintro (h4 | h4 | h4)
        · exact .inl ((hF k).2 (.inl h4))
        · exact .inl ((hF k).2 (.inr h4))
        · exact .inr h4

/-- Five cells of a block of nodes. -/
def AtC (w : World) (g o : Nat) (cc : List Value) : Prop := ∃ arr : Array Value, w.heap[g]? = some (.cells arr 32 (0, 0)) ∧ (arr.toList.drop o).take 5 = cc ∧ o + 5 ≤ arr.size
/-- The five cells at (g, o) are others; beside these only blocks of Fc, and new ones, have turned. -/
structure Chg (w w' : World) (g o : Nat) (cc' : List Value) (Fc : Nat → Prop) : Prop where
  os : w'.os = w.os
  tape : w'.tape = w.tape
  output : w'.output = w.output
  size : w.heap.size ≤ w'.heap.size
  block : ∀ k, k < w.heap.size → k ≠ g → ¬ Fc k → w'.heap[k]? = w.heap[k]?
  here : ∃ arr : Array Value, w.heap[g]? = some (.cells arr 32 (0, 0)) ∧ w'.heap[g]? = some (.cells (arr.toList.take o ++ cc' ++ arr.toList.drop (o + 5)).toArray 32 (0, 0))
theorem take_mid (l : List Value) (o : Nat) : l.take o ++ (l.drop o).take 5 ++ l.drop (o + 5) = l := by
  rw [List.append_assoc, show l.drop (o + 5) = (l.drop o).drop 5 by rw [List.drop_drop], List.take_append_drop, List.take_append_drop]

/-- One of a node's nodes: where it lies, and what becomes of the node where it is changed. -/
theorem NdO.child {B : Nat} {w : World} {k : Int} {e : Bool} {d : List UInt8} {na : List (List UInt8)} {ns : List Nd} {F : Nat → Prop} {c : List Value} (h : NdO B w (.mk k e d na ns) F c) (j : Nat) (hj : j < ns.length) :
    ∃ (g2 cap : Nat) (dv nv : Value) (Fj : Nat → Prop) (cj : List Value), c = [.int .i64 k, .bool e, dv, nv, .slice (some ⟨g2, 0, none⟩) ns.length cap] ∧ AtC w g2 (j * 5) cj ∧ NdO B w ns[j] Fj cj ∧ ¬ Fj g2 ∧ F g2 ∧ (∀ k, Fj k → F k) ∧
      ∀ (w' : World) (n' : Nd) (F' : Nat → Prop) (c' : List Value), Chg w w' g2 (j * 5) c' Fj → NdO B w' n' F' c' → (∀ k, F' k → Fj k ∨ ¬ F k) →
        ∃ G : Nat → Prop, NdO B w' (.mk k e d na (ns.set j n')) G c ∧ (∀ k, G k → F k ∨ F' k) := by
  simp only [NdO] at h
  obtain ⟨dv, nv, sv, Fd, Fs, cs, h1, h2, h3, h4, h5, h6, h7, h8, h9, hF⟩ := h
  have hl := h6.length
  obtain ⟨Fj, cj, i1, i2, i3, i4⟩ := NdsO.set h6 j hj
  have h50 := h5
  obtain ⟨_, h5b⟩ := h50
  rcases h5b with ⟨_, h0⟩ | ⟨g2, cap, cur, rfl, hb, hg, hnc, hcm, hcs, htake⟩
  · omega
  have hcl : cur.toList.length = cap * 5 := by simpa using hcs
  have hdt : (cur.toList.drop (j * 5)).take 5 = cj := by
    rw [← i2, ← htake, List.drop_take, List.take_take]
    congr 1
    omega
  refine ⟨g2, cap, dv, nv, Fj, cj, h1, ⟨cur, hg, hdt, by omega⟩, i1, fun e => (h8 g2 rfl).2 (i3 g2 e), (hF g2).2 (.inr (.inr (.inl rfl))), fun k hk => (hF k).2 (.inr (.inr (.inr (i3 k hk)))), fun w' n' F' c' hch hn hF' => ?_⟩
  have hcl5 := hn.length
  have hlt : ∀ k, F k → k < w.heap.size := fun k hk => by
    rcases (hF k).1 hk with h | h | h | h
    · exact (h3 k h).2
    · exact (h4.lt k h).2
    · exact (h5.lt k h).2
    · exact (h6.lt k h).2
  have hkeep : ∀ k, F k → k ≠ g2 → ¬ Fj k → w'.heap[k]? = w.heap[k]? := fun k hk h10 h11 => hch.block k (hlt k hk) h10 h11
  obtain ⟨G, i5, i6⟩ := i4 w' n' F' c' hch.size (fun k hk hk2 => hkeep k ((hF k).2 (.inr (.inr (.inr hk)))) (fun e => (h8 g2 rfl).2 (by rw [← e]; exact hk)) hk2) hn (fun k hk => (hF' k hk).elim .inl (fun h => .inr (fun e => h ((hF k).2 (.inr (.inr (.inr e)))))))
  have hGF : ∀ k, G k → Fs k ∨ (F' k ∧ ¬ F k) := fun k hk => by
    rcases (i6 k).1 hk with h10 | h10
    · exact .inl h10.1
    · rcases hF' k h10 with h11 | h11
      · exact .inl (i3 k h11)
      · exact .inr ⟨h10, h11⟩
  obtain ⟨arr, ha1, ha2⟩ := hch.here
  have harr : arr = cur := by
    rw [hg] at ha1
    injection ha1 with ha1
    injection ha1 with ha1
    exact ha1.symm
  subst harr
  refine ⟨fun k => Fd k ∨ nv.ownBlock = some k ∨ (Value.slice (some ⟨g2, 0, none⟩) ns.length cap).ownBlock = some k ∨ G k, ?_, ?_⟩
  · simp only [NdO]
    refine ⟨dv, nv, .slice (some ⟨g2, 0, none⟩) ns.length cap, Fd, G, _, h1, h2.kept (fun k hk => hkeep k ((hF k).2 (.inl hk)) (fun e => (h8 g2 rfl).1 (by rw [← e]; exact hk)) (fun e => h9 k hk (i3 k e))), fun k hk => ⟨(h3 k hk).1, Nat.lt_of_lt_of_le (h3 k hk).2 hch.size⟩,
      ownsRow_of_block h4 (fun k hk => hkeep k ((hF k).2 (.inr (.inl hk))) (fun e => (h7 k hk).1 (by rw [e]; rfl)) (fun e => (h7 k hk).2.2 (i3 k e))), ?_, i5, fun k hk => ⟨(h7 k hk).1, (h7 k hk).2.1, fun e => ?_⟩, fun k hk => ⟨(h8 k hk).1, fun e => ?_⟩, fun k hk e => ?_, fun k => Iff.rfl⟩
    · rw [List.length_set]
      refine ⟨by simp; omega, .inr ⟨g2, cap, _, rfl, hb, ha2, hnc, hcm, ?_, ?_⟩⟩
      · simp; omega
      · have e1 : arr.toList.take (j * 5) = cs.take (j * 5) := by rw [← htake, List.take_take, Nat.min_eq_left (by omega)]
        have e2 : (arr.toList.drop (j * 5 + 5)).take (ns.length * 5 - (j * 5 + 5)) = cs.drop (j * 5 + 5) := by rw [← htake, List.drop_take]
        rw [List.take_append, List.take_of_length_le (by simp; omega), e1]
        congr 1
        rw [← e2]
        congr 1
        simp; omega
    · rcases hGF k e with h10 | h10
      · exact (h7 k hk).2.2 h10
      · exact h10.2 ((hF k).2 (.inr (.inl hk)))
    · rcases hGF k e with h10 | h10
      · exact (h8 k hk).2 h10
      · exact h10.2 ((hF k).2 (.inr (.inr (.inl hk))))
    · rcases hGF k e with h10 | h10
      · exact h9 k hk h10
      · exact h10.2 ((hF k).2 (.inl hk))
  · intro k hk
    rcases hk with h10 | h10 | h10 | h10
    · exact .inl ((hF k).2 (.inl h10))
    · exact .inl ((hF k).2 (.inr (.inl h10)))
    · exact .inl ((hF k).2 (.inr (.inr (.inl h10))))
    · rcases hGF k h10 with h11 | h11
      · exact .inl ((hF k).2 (.inr (.inr (.inr h11))))
      · exact .inr h11.1

/-- A node's parts. -/
theorem NdO.parts {B : Nat} {w : World} {k : Int} {e : Bool} {d : List UInt8} {na : List (List UInt8)} {ns : List Nd} {F : Nat → Prop} {c : List Value} (h : NdO B w (.mk k e d na ns) F c) :
    ∃ (dv nv sv : Value) (cs : List Value), c = [.int .i64 k, .bool e, dv, nv, sv] ∧ w.ownsRow B 9 1 nv na.length (strCells na) ∧ w.ownsRow B 32 5 sv ns.length cs ∧ (∀ u ∈ cs, u.oneCell' = true) ∧ (∀ k, nv.ownBlock = some k → F k ∧ sv.ownBlock ≠ some k) ∧ (∀ k, sv.ownBlock = some k → F k) ∧
      ∀ (w' : World) (nv' sv' : Value) (na' : List (List UInt8)) (j : Nat) (n' : Nd) (F' : Nat → Prop) (c' : List Value), j ≤ ns.length → w.heap.size ≤ w'.heap.size → (∀ k, F k → nv.ownBlock ≠ some k → sv.ownBlock ≠ some k → w'.heap[k]? = w.heap[k]?) → NdO B w' n' F' c' → (∀ k, F' k → ¬ F k ∧ nv'.ownBlock ≠ some k ∧ sv'.ownBlock ≠ some k) →
        w'.ownsRow B 9 1 nv' na'.length (strCells na') → w'.ownsRow B 32 5 sv' (ns.length + 1) (cs.take (j * 5) ++ c' ++ cs.drop (j * 5)) → (∀ k, nv'.ownBlock = some k → (nv.ownBlock = some k ∨ ¬ F k) ∧ sv'.ownBlock ≠ some k) → (∀ k, sv'.ownBlock = some k → sv.ownBlock = some k ∨ ¬ F k) →
        ∃ G : Nat → Prop, NdO B w' (.mk k e d na' (ns.take j ++ [n'] ++ ns.drop j)) G [.int .i64 k, .bool e, dv, nv', sv'] ∧ (∀ k, G k → F k ∨ F' k ∨ nv'.ownBlock = some k ∨ sv'.ownBlock = some k) := by
  simp only [NdO] at h
  obtain ⟨dv, nv, sv, Fd, Fs, cs, h1, h2, h3, h4, h5, h6, h7, h8, h9, hF⟩ := h
  refine ⟨dv, nv, sv, cs, h1, h4, h5, h6.one, fun k hk => ⟨(hF k).2 (.inr (.inl hk)), (h7 k hk).1⟩, fun k hk => (hF k).2 (.inr (.inr (.inl hk))), ?_⟩
  intro w' nv' sv' na' j n' F' c' hj hsz hkeep hn hF' ho1 ho2 hn1 hn2
  have hs : ∀ k, Fs k → w'.heap[k]? = w.heap[k]? := fun k hk => hkeep k ((hF k).2 (.inr (.inr (.inr hk)))) (fun e => (h7 k e).2.2 hk) (fun e => (h8 k e).2 hk)
  have hd : ∀ k, Fd k → w'.heap[k]? = w.heap[k]? := fun k hk => hkeep k ((hF k).2 (.inl hk)) (fun e => (h7 k e).2.1 hk) (fun e => (h8 k e).1 hk)
  have i1 := NdsO.ins (h6.kept hsz hs) j hj hn (fun k hk e => (hF' k hk).1 ((hF k).2 (.inr (.inr (.inr e)))))
  refine ⟨fun k => Fd k ∨ nv'.ownBlock = some k ∨ sv'.ownBlock = some k ∨ (Fs k ∨ F' k), ?_, ?_⟩
  · simp only [NdO]
    refine ⟨dv, nv', sv', Fd, fun k => Fs k ∨ F' k, _, rfl, h2.kept hd, fun k hk => ⟨(h3 k hk).1, Nat.lt_of_lt_of_le (h3 k hk).2 hsz⟩, ho1, ?_, i1, fun k hk => ⟨(hn1 k hk).2, fun e => ?_, fun e => ?_⟩, fun k hk => ⟨fun e => ?_, fun e => ?_⟩, fun k hk e => ?_, fun k => Iff.rfl⟩
    · have : (ns.take j ++ [n'] ++ ns.drop j).length = ns.length + 1 := by simp; omega
      rw [this]
      exact ho2
    · rcases (hn1 k hk).1 with h10 | h10
      · exact (h7 k h10).2.1 e
      · exact h10 ((hF k).2 (.inl e))
    · rcases e with e | e
      · rcases (hn1 k hk).1 with h10 | h10
        · exact (h7 k h10).2.2 e
        · exact h10 ((hF k).2 (.inr (.inr (.inr e))))
      · exact (hF' k e).2.1 hk
    · rcases hn2 k hk with h10 | h10
      · exact (h8 k h10).1 e
      · exact h10 ((hF k).2 (.inl e))
    · rcases e with e | e
      · rcases hn2 k hk with h10 | h10
        · exact (h8 k h10).2 e
        · exact h10 ((hF k).2 (.inr (.inr (.inr e))))
      · exact (hF' k e).2.2 hk
    · rcases e with e | e
      · exact h9 k hk e
      · exact (hF' k e).1 ((hF k).2 (.inl hk))
  · intro k hk
    rcases hk with h10 | h10 | h10 | h10 | h10
    · exact .inl ((hF k).2 (.inl h10))
    · exact .inr (.inr (.inl h10))
    · exact .inr (.inr (.inr h10))
    · exact .inl ((hF k).2 (.inr (.inr (.inr h10))))
    · exact .inr (.inl h10)
end Go.Proofs.YtejpkjcjoengbaaGreatDoor
