/-
  What place makes of a tree, as a plain function (of no program).
-/
import Derived.Test.YtejpkjcjoengbaaGreatDoorWrong
import Derived.Test.YtejpkjcjoengbaaGreatDoorInF
import Derived.Shelf.Spec.SearchS
set_option linter.unusedVariables false
set_option linter.unusedSimpArgs false
namespace Go.Proofs.YtejpkjcjoengbaaGreatDoor
open Go.RowKit

def zeroNd : Nd := .mk 0 false [] [] []
def emptyDir : Nd := .mk 2 false [] [] []
def nameNd (s : List UInt8) : Nd := .mk 2 false [] [s] [emptyDir]
/-- Where a name stands, or would. -/
def atF (na : List (List UInt8)) (s : List UInt8) : Nat := Lib.bsGo (fun t => Op.bytesLess (na.getD t []) s) na.length 0 na.length
def thereB (na : List (List UInt8)) (s : List UInt8) : Bool := decide (atF na s < na.length ∧ na.getD (atF na s) [] = s)
theorem bsGo_le (less : Nat → Bool) : ∀ (f lo hi : Nat), lo ≤ hi → lo ≤ Lib.bsGo less f lo hi ∧ Lib.bsGo less f lo hi ≤ hi
  | 0, lo, hi, h => by simp [Lib.bsGo]; exact h
  | f + 1, lo, hi, h => by
    unfold Lib.bsGo
    by_cases hl : lo < hi
    · rw [if_pos hl]
      split
      · have := bsGo_le less f ((lo + hi) / 2 + 1) hi (by omega)
        omega
      · have := bsGo_le less f lo ((lo + hi) / 2) (by omega)
        omega
    · rw [if_neg hl]
      omega
theorem atF_le (na : List (List UInt8)) (s : List UInt8) : atF na s ≤ na.length := (bsGo_le _ _ 0 na.length (Nat.zero_le _)).2
theorem thereB_lt {na : List (List UInt8)} {s : List UInt8} (h : thereB na s = true) : atF na s < na.length := by
  unfold thereB at h
  exact (of_decide_eq_true h).1

def placeF : Nd → List (List UInt8) → Nd → Except Int Nd
  | d, [], _ => .ok d
  | .mk k e dt na ns, s :: r, n =>
    if k ≠ 2 then .error 12
    else if r = [] then (if thereB na s = true then .error 13 else .ok (.mk k e dt (na.take (atF na s) ++ [s] ++ na.drop (atF na s)) (ns.take (atF na s) ++ [n] ++ ns.drop (atF na s))))
    else if thereB na s = false then .error 14
    else match ns[atF na s]? with
      | none => .error 0
      | some c => match placeF c r n with
        | .ok c' => .ok (.mk k e dt na (ns.set (atF na s) c'))
        | .error x => .error x

mutual
/-- How many nodes there are. -/
def szF : Nd → Nat
  | .mk _ _ _ _ ns => 1 + szsF ns
def szsF : List Nd → Nat
  | [] => 0
  | x :: r => szF x + szsF r
end
mutual
/-- As many names as nodes, everywhere; no name is long. -/
def NdEq : Nd → Prop
  | .mk _ _ _ na ns => na.length = ns.length ∧ (∀ x ∈ na, x.length ≤ 65536) ∧ NdsEq ns
def NdsEq : List Nd → Prop
  | [] => True
  | x :: r => NdEq x ∧ NdsEq r
end
theorem szsF_len : ∀ l : List Nd, l.length ≤ szsF l
  | [] => Nat.zero_le _
  | .mk k e d na ns :: r => by
    have := szsF_len r
    simp only [szsF, szF, List.length_cons]
    omega
theorem szsF_app : ∀ a b : List Nd, szsF (a ++ b) = szsF a + szsF b
  | [], b => by simp [szsF]
  | x :: r, b => by simp only [List.cons_append, szsF, szsF_app r b]; omega
theorem NdsEq.app : ∀ {a b : List Nd}, NdsEq (a ++ b) ↔ (NdsEq a ∧ NdsEq b)
  | [], b => by simp [NdsEq]
  | x :: r, b => by simp only [List.cons_append, NdsEq, NdsEq.app (a := r), and_assoc]
theorem NdsEq.mem : ∀ {l : List Nd}, NdsEq l → ∀ x ∈ l, NdEq x
  | x :: r, h, y, hy => by
    simp only [NdsEq] at h
    rcases List.mem_cons.1 hy with rfl | h1
    · exact h.1
    · exact NdsEq.mem h.2 y h1
theorem szsF_mem : ∀ {l : List Nd} {x : Nd}, x ∈ l → szF x ≤ szsF l
  | y :: r, x, h => by
    simp only [szsF]
    rcases List.mem_cons.1 h with rfl | h1
    · omega
    · have := szsF_mem h1; omega
theorem szsF_set : ∀ {l : List Nd} {j : Nat} {x : Nd} (hj : j < l.length), szsF (l.set j x) + szF l[j] = szsF l + szF x
  | y :: r, 0, x, h => by simp only [List.set_cons_zero, szsF, List.getElem_cons_zero]; omega
  | y :: r, j + 1, x, h => by
    have := szsF_set (l := r) (j := j) (x := x) (by simpa using h)
    simp only [List.set_cons_succ, szsF, List.getElem_cons_succ]
    omega
theorem NdsEq.set : ∀ {l : List Nd} {j : Nat} {x : Nd}, NdsEq l → NdEq x → NdsEq (l.set j x)
  | [], j, x, h, hx => by simp [NdsEq]
  | y :: r, 0, x, h, hx => by simp only [NdsEq] at h; simp only [List.set_cons_zero, NdsEq]; exact ⟨hx, h.2⟩
  | y :: r, j + 1, x, h, hx => by simp only [NdsEq] at h; simp only [List.set_cons_succ, NdsEq]; exact ⟨h.1, NdsEq.set h.2 hx⟩

theorem placeF_ok : ∀ (l : List (List UInt8)) (d n t : Nd), (∀ x ∈ l, x.length ≤ 65536) → NdEq d → NdEq n → placeF d l n = .ok t → NdEq t ∧ szF t ≤ szF d + szF n
  | [], d, n, t, hl, hd, hn, h => by
    cases d
    simp only [placeF] at h
    injection h with h
    subst h
    exact ⟨hd, by omega⟩
  | s :: r, .mk k e dt na ns, n, t, hl, hd, hn, h => by
    simp only [placeF] at h
    simp only [NdEq] at hd
    obtain ⟨hd1, hd2, hd3⟩ := hd
    by_cases hk : k ≠ 2
    · rw [if_pos hk] at h; cases h
    rw [if_neg hk] at h
    by_cases hr : r = []
    · rw [if_pos hr] at h
      by_cases hth : thereB na s = true
      · rw [if_pos hth] at h; cases h
      rw [if_neg hth] at h
      injection h with h
      subst h
      have ha := atF_le na s
      have e1 : szsF ns = szsF (ns.take (atF na s)) + szsF (ns.drop (atF na s)) := by rw [← szsF_app, List.take_append_drop]
      have e2 : NdsEq (ns.take (atF na s)) ∧ NdsEq (ns.drop (atF na s)) := by rw [← NdsEq.app, List.take_append_drop]; exact hd3
      refine ⟨?_, ?_⟩
      · simp only [NdEq]
        refine ⟨by simp; omega, fun x hx => ?_, ?_⟩
        · simp only [List.mem_append, List.mem_singleton] at hx
          rcases hx with (h1 | h1) | h1
          · exact hd2 x (List.mem_of_mem_take h1)
          · subst h1; exact hl x (by simp)
          · exact hd2 x (List.mem_of_mem_drop h1)
        · rw [NdsEq.app, NdsEq.app]
          refine ⟨⟨e2.1, ?_⟩, e2.2⟩
          simp only [NdsEq]
          exact ⟨hn, trivial⟩
      · simp only [szF, szsF_app, szsF]
        omega
    rw [if_neg hr] at h
    by_cases hth : thereB na s = false
    · rw [if_pos hth] at h; cases h
    rw [if_neg hth] at h
    have hlt : atF na s < ns.length := by rw [← hd1]; exact thereB_lt (by simpa using hth)
    rw [List.getElem?_eq_getElem hlt] at h
    dsimp only at h
    cases hp : placeF ns[atF na s] r n with
    | error x => rw [hp] at h; cases h
    | ok c' =>
      rw [hp] at h
      injection h with h
      subst h
      obtain ⟨h1, h2⟩ := placeF_ok r _ n c' (fun x hx => hl x (by simp [hx])) (hd3.mem _ (List.getElem_mem hlt)) hn hp
      refine ⟨?_, ?_⟩
      · simp only [NdEq]
        exact ⟨by simp [hd1], hd2, hd3.set h1⟩
      · have := szsF_set (x := c') hlt
        simp only [szF]
        omega
theorem entriesF_bound : ∀ (na : List (List UInt8)), (∀ x ∈ na, x.length ≤ 65536) → entriesF na ≤ 65539 * na.length
  | [], _ => by simp [entriesF]
  | x :: r, h => by
    have h1 := entriesF_bound r (fun y hy => h y (by simp [hy]))
    have h2 := h x (by simp)
    unfold entriesF at *
    simp only [List.map_cons, List.sum_cons, List.length_cons]
    omega
mutual
theorem NdEq.ok : ∀ {n : Nd}, NdEq n → szF n ≤ 10000000 → NdOk n
  | .mk k e d na ns, h, hs => by
    simp only [NdEq] at h
    simp only [szF] at hs
    have h1 := entriesF_bound na h.2.1
    have h2 := szsF_len ns
    simp only [NdOk]
    exact ⟨by omega, NdsEq.ok h.2.2 (by omega)⟩
theorem NdsEq.ok : ∀ {l : List Nd}, NdsEq l → szsF l ≤ 10000000 → NdsOk l
  | [], h, hs => by simp [NdsOk]
  | x :: r, h, hs => by
    simp only [NdsEq] at h
    simp only [szsF] at hs
    simp only [NdsOk]
    exact ⟨NdEq.ok h.1 (by omega), NdsEq.ok h.2 (by omega)⟩
end
theorem nameNd_ok (s : List UInt8) (h : s.length ≤ 1000000) : NdOk (nameNd s) := by
  unfold nameNd emptyDir
  simp only [NdOk, NdsOk, and_true]
  refine ⟨?_, ?_⟩ <;> simp [entriesF] <;> omega
end Go.Proofs.YtejpkjcjoengbaaGreatDoor
