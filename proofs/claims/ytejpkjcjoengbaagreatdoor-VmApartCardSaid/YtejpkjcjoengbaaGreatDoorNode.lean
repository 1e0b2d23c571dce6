/-
  A tree of nodes in memory (of no function): its cells, and the blocks in which it lies.
-/
import Derived.Test.YtejpkjcjoengbaaGreatDoorVmG
set_option linter.unusedVariables false
set_option linter.unusedSimpArgs false
namespace Go.Proofs.YtejpkjcjoengbaaGreatDoor
open Go.RowKit

inductive Nd where
  | mk (kind : Int) (exec : Bool) (data : List UInt8) (names : List (List UInt8)) (nodes : List Nd)
instance : Inhabited Nd := ⟨.mk 0 false [] [] []⟩
def Nd.kind : Nd → Int | .mk k _ _ _ _ => k
def Nd.exec : Nd → Bool | .mk _ e _ _ _ => e
def Nd.data : Nd → List UInt8 | .mk _ _ d _ _ => d
def Nd.names : Nd → List (List UInt8) | .mk _ _ _ n _ => n
def Nd.nodes : Nd → List Nd | .mk _ _ _ _ n => n

/-- A slice of cells that lies in blocks of F; at length 0 it may be nil. -/
def SliceIs (F : Nat → Prop) (size : Nat) (v : Value) (n : Nat) (cells : List Value) (w : World) : Prop :=
  n ≤ maxLen ∧ ∃ A c, v = .slice A n c ∧ (0 < n → ∃ g o, A = some ⟨g, o, none⟩ ∧ F g ∧ cells.length = n * size ∧ ∀ (j : Nat) x, cells[j]? = some x → w.cell? ⟨g, o + j, none⟩ = some x)
theorem SliceIs.kept {F : Nat → Prop} {size n : Nat} {v : Value} {cells : List Value} {w w' : World} (h : SliceIs F size v n cells w) (hk : ∀ k, F k → w'.heap[k]? = w.heap[k]?) : SliceIs F size v n cells w' := by
  obtain ⟨hn, A, c, rfl, h⟩ := h
  refine ⟨hn, A, c, rfl, fun h0 => ?_⟩
  obtain ⟨g, o, rfl, hg, hl, hc⟩ := h h0
  exact ⟨g, o, rfl, hg, hl, fun j x hx => (World.cell?_of_block (hk g hg)).trans (hc j x hx)⟩
theorem SliceIs.mono {F G : Nat → Prop} {size n : Nat} {v : Value} {cells : List Value} {w : World} (h : SliceIs F size v n cells w) (hk : ∀ k, F k → G k) : SliceIs G size v n cells w := by
  obtain ⟨hn, A, c, rfl, h⟩ := h
  refine ⟨hn, A, c, rfl, fun h0 => ?_⟩
  obtain ⟨g, o, rfl, hg, hl, hc⟩ := h h0
  exact ⟨g, o, rfl, hk g hg, hl, hc⟩
theorem SliceIs.nil (F : Nat → Prop) (size : Nat) (w : World) : SliceIs F size (.slice none 0 0) 0 [] w := ⟨Nat.zero_le _, none, 0, rfl, fun h => absurd h (Nat.lt_irrefl _)⟩

def byteCells (l : List UInt8) : List Value := l.map fun x => .int .u8 x.toNat

mutual
/-- The five cells of a node. -/
def NdIs (F : Nat → Prop) (w : World) : Nd → List Value → Prop
  | .mk k e d na ns, cells => ∃ dv nv sv, cells = [.int .i64 k, .bool e, dv, nv, sv] ∧ SliceIs F 1 dv d.length (byteCells d) w ∧ SliceIs F 1 nv na.length (strCells na) w ∧
      ∃ cs : List Value, SliceIs F 5 sv ns.length cs w ∧ NdsIs F w ns cs
/-- The cells of nodes, one behind the other. -/
def NdsIs (F : Nat → Prop) (w : World) : List Nd → List Value → Prop
  | [], cells => cells = []
  | n :: r, cells => ∃ c1 c2, cells = c1 ++ c2 ∧ NdIs F w n c1 ∧ NdsIs F w r c2
end

mutual
theorem NdIs.kept {F : Nat → Prop} {w w' : World} (hk : ∀ k, F k → w'.heap[k]? = w.heap[k]?) : ∀ (n : Nd) {cells : List Value}, NdIs F w n cells → NdIs F w' n cells
  | .mk k e d na ns, cells, h => by
    simp only [NdIs] at h ⊢
    obtain ⟨dv, nv, sv, h1, h2, h3, cs, h4, h5⟩ := h
    exact ⟨dv, nv, sv, h1, h2.kept hk, h3.kept hk, cs, h4.kept hk, NdsIs.kept hk ns h5⟩
theorem NdsIs.kept {F : Nat → Prop} {w w' : World} (hk : ∀ k, F k → w'.heap[k]? = w.heap[k]?) : ∀ (l : List Nd) {cells : List Value}, NdsIs F w l cells → NdsIs F w' l cells
  | [], cells, h => by simp only [NdsIs] at h ⊢; exact h
  | n :: r, cells, h => by
    simp only [NdsIs] at h ⊢
    obtain ⟨c1, c2, h1, h2, h3⟩ := h
    exact ⟨c1, c2, h1, NdIs.kept hk n h2, NdsIs.kept hk r h3⟩
end
mutual
theorem NdIs.mono {F G : Nat → Prop} {w : World} (hk : ∀ k, F k → G k) : ∀ (n : Nd) {cells : List Value}, NdIs F w n cells → NdIs G w n cells
  | .mk k e d na ns, cells, h => by
    simp only [NdIs] at h ⊢
    obtain ⟨dv, nv, sv, h1, h2, h3, cs, h4, h5⟩ := h
    exact ⟨dv, nv, sv, h1, h2.mono hk, h3.mono hk, cs, h4.mono hk, NdsIs.mono hk ns h5⟩
theorem NdsIs.mono {F G : Nat → Prop} {w : World} (hk : ∀ k, F k → G k) : ∀ (l : List Nd) {cells : List Value}, NdsIs F w l cells → NdsIs G w l cells
  | [], cells, h => by simp only [NdsIs] at h ⊢; exact h
  | n :: r, cells, h => by
    simp only [NdsIs] at h ⊢
    obtain ⟨c1, c2, h1, h2, h3⟩ := h
    exact ⟨c1, c2, h1, NdIs.mono hk n h2, NdsIs.mono hk r h3⟩
end
theorem NdIs.length {F : Nat → Prop} {w : World} : ∀ {n : Nd} {cells : List Value}, NdIs F w n cells → cells.length = 5
  | .mk k e d na ns, cells, h => by
    simp only [NdIs] at h
    obtain ⟨dv, nv, sv, rfl, _⟩ := h
    rfl
theorem NdsIs.length {F : Nat → Prop} {w : World} : ∀ {l : List Nd} {cells : List Value}, NdsIs F w l cells → cells.length = l.length * 5
  | [], cells, h => by simp only [NdsIs] at h; subst h; rfl
  | n :: r, cells, h => by
    simp only [NdsIs] at h
    obtain ⟨c1, c2, rfl, h2, h3⟩ := h
    have := NdIs.length h2
    have := NdsIs.length h3
    simp; omega
/-- One node of many. -/
theorem NdsIs.at {F : Nat → Prop} {w : World} : ∀ {l : List Nd} {cells : List Value}, NdsIs F w l cells → ∀ (k : Nat) (hk : k < l.length), ∃ c, NdIs F w l[k] c ∧ ∀ j, j < 5 → cells[k * 5 + j]? = c[j]?
  | [], cells, h, k, hk => by simp at hk
  | n :: r, cells, h, k, hk => by
    simp only [NdsIs] at h
    obtain ⟨c1, c2, rfl, h2, h3⟩ := h
    have hl := NdIs.length h2
    cases k with
    | zero => exact ⟨c1, h2, fun j hj => by rw [Nat.zero_mul, Nat.zero_add, List.getElem?_append_left (by omega)]⟩
    | succ k =>
      obtain ⟨c, h4, h5⟩ := NdsIs.at h3 k (by simpa using hk)
      refine ⟨c, h4, fun j hj => ?_⟩
      rw [List.getElem?_append_right (by omega), ← h5 j hj]
      congr 1
      omega
end Go.Proofs.YtejpkjcjoengbaaGreatDoor
