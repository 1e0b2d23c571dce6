/-
  The plain law of VmStops: what its five programs come to.
-/
import Derived.Test.YtejpkjcjoengbaaGreatDoorLawR
set_option linter.unusedVariables false
set_option linter.unusedSimpArgs false
namespace Go.Proofs.YtejpkjcjoengbaaGreatDoor
open Go.RowKit

def progS1 : List UInt8 := [108, 97, 98, 101, 108, 32, 97, 10, 106, 117, 109, 112, 32, 97]
def lsS1 : List PLine := [⟨0, wLabel, [97]⟩, ⟨1, wJump, [97]⟩]
theorem readS1 : readF (splitLines progS1) = some ⟨lsS1, 0, 0⟩ := by kernel_rfl
theorem smS1 : ∀ l ∈ splitLines progS1, l.length ≤ 60000 := by
  have : (splitLines progS1).all (fun l => decide (l.length ≤ 60000)) = true := by kernel_rfl
  intro l hl
  simpa using List.all_eq_true.1 this l hl
theorem lenS1 : ∀ r, readF (splitLines progS1) = some r → r.lines.length ≤ 4096 ∧ ∀ x ∈ r.lines, x.text.length ≤ 60000 := by
  intro r h
  rw [readS1] at h
  injection h with h
  subst h
  refine ⟨by simp [lsS1], fun x hx => ?_⟩
  have : lsS1.all (fun x => decide (x.text.length ≤ 60000)) = true := by kernel_rfl
  simpa using List.all_eq_true.1 this x hx
def progS2 : List UInt8 := [112, 117, 115, 104, 32, 34, 48, 34, 10, 108, 97, 98, 101, 108, 32, 97, 10, 112, 117, 115, 104, 32, 34, 49, 34, 10, 97, 100, 100, 10, 100, 117, 112, 10, 112, 117, 115, 104, 32, 34, 120, 34, 10, 102, 105, 108, 101, 10, 106, 117, 109, 112, 32, 97]
def lsS2 : List PLine := [⟨0, wPush, [48]⟩, ⟨1, wLabel, [97]⟩, ⟨2, wPush, [49]⟩, ⟨3, [97, 100, 100], []⟩, ⟨4, [100, 117, 112], []⟩, ⟨5, wPush, [120]⟩, ⟨6, [102, 105, 108, 101], []⟩, ⟨7, wJump, [97]⟩]
theorem readS2 : readF (splitLines progS2) = some ⟨lsS2, 0, 0⟩ := by kernel_rfl
theorem smS2 : ∀ l ∈ splitLines progS2, l.length ≤ 60000 := by
  have : (splitLines progS2).all (fun l => decide (l.length ≤ 60000)) = true := by kernel_rfl
  intro l hl
  simpa using List.all_eq_true.1 this l hl
theorem lenS2 : ∀ r, readF (splitLines progS2) = some r → r.lines.length ≤ 4096 ∧ ∀ x ∈ r.lines, x.text.length ≤ 60000 := by
  intro r h
  rw [readS2] at h
  injection h with h
  subst h
  refine ⟨by simp [lsS2], fun x hx => ?_⟩
  have : lsS2.all (fun x => decide (x.text.length ≤ 60000)) = true := by kernel_rfl
  simpa using List.all_eq_true.1 this x hx
def progS3 : List UInt8 := [112, 117, 115, 104, 32, 34, 34, 10, 112, 117, 115, 104, 32, 34, 97, 34, 10, 102, 105, 108, 101]
def lsS3 : List PLine := [⟨0, wPush, []⟩, ⟨1, wPush, [97]⟩, ⟨2, [102, 105, 108, 101], []⟩]
theorem readS3 : readF (splitLines progS3) = some ⟨lsS3, 0, 0⟩ := by kernel_rfl
theorem smS3 : ∀ l ∈ splitLines progS3, l.length ≤ 60000 := by
  have : (splitLines progS3).all (fun l => decide (l.length ≤ 60000)) = true := by kernel_rfl
  intro l hl
  simpa using List.all_eq_true.1 this l hl
theorem lenS3 : ∀ r, readF (splitLines progS3) = some r → r.lines.length ≤ 4096 ∧ ∀ x ∈ r.lines, x.text.length ≤ 60000 := by
  intro r h
  rw [readS3] at h
  injection h with h
  subst h
  refine ⟨by simp [lsS3], fun x hx => ?_⟩
  have : lsS3.all (fun x => decide (x.text.length ≤ 60000)) = true := by kernel_rfl
  simpa using List.all_eq_true.1 this x hx
def progS4 : List UInt8 := [112, 117, 115, 104, 32, 34, 34, 10, 112, 117, 115, 104, 32, 34, 97, 98, 34, 10, 102, 105, 108, 101]
def lsS4 : List PLine := [⟨0, wPush, []⟩, ⟨1, wPush, [97, 98]⟩, ⟨2, [102, 105, 108, 101], []⟩]
theorem readS4 : readF (splitLines progS4) = some ⟨lsS4, 0, 0⟩ := by kernel_rfl
theorem smS4 : ∀ l ∈ splitLines progS4, l.length ≤ 60000 := by
  have : (splitLines progS4).all (fun l => decide (l.length ≤ 60000)) = true := by kernel_rfl
  intro l hl
  simpa using List.all_eq_true.1 this l hl
theorem lenS4 : ∀ r, readF (splitLines progS4) = some r → r.lines.length ≤ 4096 ∧ ∀ x ∈ r.lines, x.text.length ≤ 60000 := by
  intro r h
  rw [readS4] at h
  injection h with h
  subst h
  refine ⟨by simp [lsS4], fun x hx => ?_⟩
  have : lsS4.all (fun x => decide (x.text.length ≤ 60000)) = true := by kernel_rfl
  simpa using List.all_eq_true.1 this x hx

def W0 : Wd := ⟨[], [], []⟩
/-- The program that jumps to itself. -/
theorem runS1 (most steps : Int) : ∀ (d k f : Nat) (n : Int) (lb : List UInt8), k < 2 → n + d = steps → runF' W0 most lsS1 steps (f + d + 1) k n ⟨[], none, 0, lb⟩ = some (steps + 1, .error 42)
  | 0, k, f, n, lb, hk, hn => by
    obtain ⟨l, hl⟩ : ∃ l, lsS1[k]? = some l := by
      match k, hk with
      | 0, _ => exact ⟨_, rfl⟩
      | 1, _ => exact ⟨_, rfl⟩
    rw [show f + 0 + 1 = f + 1 by omega, runF'_quota hl (by omega)]
    congr 2
    omega
  | d + 1, k, f, n, lb, hk, hn => by
    match k, hk with
    | 0, _ =>
      rw [show f + (d + 1) + 1 = (f + d + 1) + 1 by omega, runF'_next (k := 0) (l := ⟨0, wLabel, [97]⟩) (op := 35) (s' := ⟨[], none, 0, []⟩) rfl (by omega) rfl rfl rfl]
      exact runS1 most steps d 1 f (n + 1) [] (by omega) (by omega)
    | 1, _ =>
      rw [show f + (d + 1) + 1 = (f + d + 1) + 1 by omega, runF'_jump (k := 1) (l := ⟨1, wJump, [97]⟩) (op := 36) (s' := ⟨[], none, 0, [97]⟩) rfl (by omega) rfl rfl (by simp) 0 rfl]
      exact runS1 most steps d 0 f (n + 1) [97] (by omega) (by omega)

/-- The numbers that name the files. -/
theorem nums_all : (List.range 1027).all (fun j => decide (numF (Lib.itoa (j : Int)) = (j : Int)) && decide ((Lib.itoa (j : Int)).length ≤ 4) && decide (Lib.itoa (j : Int) ≠ []) && decide (splitSl (Lib.itoa (j : Int)) = [Lib.itoa (j : Int)]) && nameB (Lib.itoa (j : Int))) = true := by kernel_rfl
theorem nums (j : Nat) (hj : j < 1027) : numF (Lib.itoa (j : Int)) = (j : Int) ∧ (Lib.itoa (j : Int)).length ≤ 4 ∧ Lib.itoa (j : Int) ≠ [] ∧ splitSl (Lib.itoa (j : Int)) = [Lib.itoa (j : Int)] ∧ nameB (Lib.itoa (j : Int)) = true := by
  have := List.all_eq_true.1 nums_all j (List.mem_range.2 hj)
  simp only [Bool.and_eq_true] at this
  obtain ⟨⟨⟨⟨h1, h2⟩, h3⟩, h4⟩, h5⟩ := this
  exact ⟨of_decide_eq_true h1, of_decide_eq_true h2, of_decide_eq_true h3, of_decide_eq_true h4, h5⟩
theorem right_name {s : List UInt8} (h : nameB s = true) (hl : s.length ≤ 60) : rightF (nameNd s) = 0 := by
  have h1 : countF (nameNd s) 1024 1 = (2, true) := by
    unfold nameNd emptyDir
    unfold countF
    rw [if_neg (by omega)]
    rw [countsF]
    have : countF (.mk 2 false [] [] []) (1024 - 1) (1 + 1) = (1, true) := by
      unfold countF
      rw [if_neg (by omega)]
      rfl
    rw [this]
    rfl
  unfold rightF
  rw [h1]
  show wrongF (nameNd s) = 0
  unfold nameNd emptyDir
  rw [wrongF, if_neg (by simp [kindsB]), if_neg (by simp [entriesF]; omega), if_neg (by simp), if_neg (by simp [namesOk, h]), wrongsF]
  have : wrongF (.mk 2 false [] [] []) = 0 := by
    rw [wrongF, if_neg (by simp [kindsB]), if_neg (by simp [entriesF]), if_neg (by simp), if_neg (by simp [namesOk])]
    rfl
  rw [if_pos this]
  rfl

/-- What is put out behind j rounds: a directory, its names some of the first j numbers. -/
def OutS (j : Nat) (o : Option Nd) : Prop := ∃ na ns, o.getD emptyDir = .mk 2 false [] na ns ∧ ∀ x ∈ na, ∃ i : Nat, i ≤ j ∧ x = Lib.itoa (i : Int) ∧ 1 ≤ i
theorem emitS (j : Nat) (hj : j + 1 < 1027) (o : Option Nd) (ho : OutS j o) (most : Int) (st : List (List UInt8)) (lb : List UInt8) :
    ∃ t, OutS (j + 1) (some t) ∧ emitF most ⟨st, o, j, lb⟩ (Lib.itoa ((j + 1 : Nat) : Int)) (.mk 1 false [120] [] []) = if (j : Int) + 1 > most then .error 42 else .ok ⟨st, some t, (j : Int) + 1, lb⟩ := by
  obtain ⟨h1, h2, h3, h4, h5⟩ := nums (j + 1) hj
  obtain ⟨na, ns, ho1, ho2⟩ := ho
  have hnot : Lib.itoa ((j + 1 : Nat) : Int) ∉ na := fun hm => by
    obtain ⟨i, hi, he, _⟩ := ho2 _ hm
    have e1 := (nums i (by omega)).1
    rw [← he, h1] at e1
    omega
  have hth : thereB na (Lib.itoa ((j + 1 : Nat) : Int)) = false := by
    unfold thereB
    refine decide_eq_false (fun h => hnot ?_)
    rw [List.getD_eq_getElem?_getD, List.getElem?_eq_getElem h.1, Option.getD_some] at h
    rw [← h.2]
    exact List.getElem_mem h.1
  refine ⟨.mk 2 false [] (na.take (atF na (Lib.itoa ((j + 1 : Nat) : Int))) ++ [Lib.itoa ((j + 1 : Nat) : Int)] ++ na.drop (atF na (Lib.itoa ((j + 1 : Nat) : Int)))) (ns.take (atF na (Lib.itoa ((j + 1 : Nat) : Int))) ++ [.mk 1 false [120] [] []] ++ ns.drop (atF na (Lib.itoa ((j + 1 : Nat) : Int)))), ⟨_, _, rfl, fun x hx => ?_⟩, ?_⟩
  · simp only [List.mem_append, List.mem_singleton] at hx
    rcases hx with (hx | hx) | hx
    · obtain ⟨i, hi, he⟩ := ho2 x (List.mem_of_mem_take hx)
      exact ⟨i, by omega, he⟩
    · exact ⟨j + 1, Nat.le_refl _, hx, by omega⟩
    · obtain ⟨i, hi, he⟩ := ho2 x (List.mem_of_mem_drop hx)
      exact ⟨i, by omega, he⟩
  · unfold emitF
    rw [if_neg h3, h4, if_neg (by rw [List.all_cons, right_name h5 (by omega)]; simp)]
    show (match placeF (o.getD emptyDir) [Lib.itoa ((j + 1 : Nat) : Int)] _ with | .error x => _ | .ok t => _) = _
    rw [ho1, placeF, if_neg (by decide), if_pos rfl, if_neg (by rw [hth]; decide)]
    rfl

theorem roundS2 (j f : Nat) (hj : j + 1 < 1027) (most : Int) (n : Int) (lb : List UInt8) (o : Option Nd) (ho : OutS j o) (hn : n + 7 ≤ 20000) :
    ∃ t, OutS (j + 1) (some t) ∧ runF' W0 most lsS2 20000 (f + 7) 1 n ⟨[Lib.itoa (j : Int)], o, j, lb⟩ = if (j : Int) + 1 > most then some (n + 6, .error 42) else runF' W0 most lsS2 20000 f 1 (n + 7) ⟨[Lib.itoa ((j + 1 : Nat) : Int)], some t, ((j + 1 : Nat) : Int), [97]⟩ := by
  obtain ⟨t, ht, hE⟩ := emitS j hj o ho most [Lib.itoa ((j + 1 : Nat) : Int)] []
  refine ⟨t, ht, ?_⟩
  have h1 := nums j (by omega)
  have h3 := nums (j + 1) hj
  have hadd : Lib.itoa (numF (Lib.itoa (j : Int)) + numF [49]) = Lib.itoa ((j + 1 : Nat) : Int) := by
    rw [h1.1]
    have : numF [49] = 1 := by kernel_rfl
    rw [this]; rfl
  have l1 := h1.2.1
  have l3 := h3.2.1
  clear h1 h3
  generalize Lib.itoa ((j + 1 : Nat) : Int) = J1 at *
  generalize Lib.itoa (j : Int) = J at *
  rw [runF'_next (k := 1) (f := f + 6) (l := ⟨1, wLabel, [97]⟩) (op := 35) (s' := ⟨[J], o, j, []⟩) rfl (by omega) rfl rfl rfl,
    runF'_next (k := 2) (f := f + 5) (l := ⟨2, wPush, [49]⟩) (op := 33) (s' := ⟨[J, [49]], o, j, []⟩) rfl (by omega) rfl (by show some (ofO _ _ (putR [J] [[49]])) = _; rw [putR1 (by simp) (by simp)]; rfl) rfl,
    runF'_next (k := 3) (f := f + 4) (l := ⟨3, [97, 100, 100], []⟩) (op := 48) (s' := ⟨[J1], o, j, []⟩) rfl (by omega) rfl (by show some (ofO _ _ (putR [] [Lib.itoa (numF J + numF [49])])) = _; rw [hadd, putR1 (by omega) (by simp)]; rfl) rfl,
    runF'_next (k := 4) (f := f + 3) (l := ⟨4, [100, 117, 112], []⟩) (op := 43) (s' := ⟨[J1, J1], o, j, []⟩) rfl (by omega) rfl (by show some (ofO _ _ (putR [] [J1, J1])) = _; rw [putR2 (by omega) (by omega) (by simp)]; rfl) rfl,
    runF'_next (k := 5) (f := f + 2) (l := ⟨5, wPush, [120]⟩) (op := 33) (s' := ⟨[J1, J1, [120]], o, j, []⟩) rfl (by omega) rfl (by show some (ofO _ _ (putR [J1, J1] [[120]])) = _; rw [putR1 (by simp) (by simp)]; rfl) rfl]
  by_cases hq : (j : Int) + 1 > most
  · rw [if_pos hq] at hE ⊢
    rw [runF'_err (k := 6) (f := f + 1) (l := ⟨6, [102, 105, 108, 101], []⟩) (op := 50) (e := 42) rfl (by omega) rfl (by show some (emitF most ⟨[J1], o, j, []⟩ J1 (.mk 1 false [120] [] [])) = _; rw [hE])]
    congr 2
    omega
  · rw [if_neg hq] at hE ⊢
    rw [runF'_next (k := 6) (f := f + 1) (l := ⟨6, [102, 105, 108, 101], []⟩) (op := 50) (s' := ⟨[J1], some t, (j : Int) + 1, []⟩) rfl (by omega) rfl (by show some (emitF most ⟨[J1], o, j, []⟩ J1 (.mk 1 false [120] [] [])) = _; rw [hE]) rfl,
      runF'_jump (k := 7) (f := f) (l := ⟨7, wJump, [97]⟩) (op := 36) (s' := ⟨[J1], some t, (j : Int) + 1, [97]⟩) rfl (by omega) rfl rfl (by simp) 1 rfl]
    congr 1
    omega
theorem roundsS2 (most : Nat) (hm : most ≤ 1024) : ∀ (d j f : Nat) (n : Int) (lb : List UInt8) (o : Option Nd), j + d = most → n + 7 * d + 7 ≤ 20000 → OutS j o → ∃ m, runF' W0 most lsS2 20000 (f + 7 * d + 7) 1 n ⟨[Lib.itoa (j : Int)], o, j, lb⟩ = some (m, .error 42)
  | 0, j, f, n, lb, o, hj, hn, ho => by
    obtain ⟨t, ht, h⟩ := roundS2 j f (by omega) most n lb o ho (by omega)
    rw [if_pos (by omega)] at h
    exact ⟨_, by rw [show f + 7 * 0 + 7 = f + 7 by omega]; exact h⟩
  | d + 1, j, f, n, lb, o, hj, hn, ho => by
    obtain ⟨t, ht, h⟩ := roundS2 j (f + 7 * d + 7) (by omega) most n lb o ho (by omega)
    rw [if_neg (by omega)] at h
    obtain ⟨m, hr⟩ := roundsS2 most hm d (j + 1) f (n + 7) [97] (some t) (by omega) (by omega) ht
    exact ⟨m, by rw [show f + 7 * (d + 1) + 7 = f + 7 * d + 7 + 7 by omega, h]; exact hr⟩
theorem runS2 (most : Nat) (hm : most ≤ 1024) : ∃ m, runF' W0 most lsS2 20000 20002 0 0 ⟨[], none, 0, []⟩ = some (m, .error 42) := by
  have h0 : Lib.itoa ((0 : Nat) : Int) = [48] := by kernel_rfl
  obtain ⟨m, h⟩ := roundsS2 most hm most 0 (20001 - 7 * most - 7) 1 [] none (by omega) (by omega) ⟨[], [], rfl, by simp⟩
  rw [h0] at h
  refine ⟨m, ?_⟩
  rw [runF'_next (k := 0) (f := 20001) (l := ⟨0, wPush, [48]⟩) (op := 33) (s' := ⟨[[48]], none, 0, []⟩) rfl (by omega) rfl (by show some (ofO _ _ (putR [] [[48]])) = _; rw [putR1 (by simp) (by simp)]; rfl) rfl]
  rw [show 20001 - 7 * most - 7 + 7 * most + 7 = 20001 by omega] at h
  exact h
theorem runS3 : runF' W0 1 lsS3 3 5 0 0 ⟨[], none, 0, []⟩ = some (3, .ok ⟨[], some (leafNd [97]), 1, []⟩) := by
  rw [runF'_next (k := 0) (f := 4) (l := ⟨0, wPush, []⟩) (op := 33) (s' := ⟨[[]], none, 0, []⟩) rfl (by omega) rfl (by show some (ofO _ _ (putR [] [[]])) = _; rw [putR1 (by simp) (by simp)]; rfl) rfl,
    runF'_next (k := 1) (f := 3) (l := ⟨1, wPush, [97]⟩) (op := 33) (s' := ⟨[[], [97]], none, 0, []⟩) rfl (by omega) rfl (by show some (ofO _ _ (putR [[]] [[97]])) = _; rw [putR1 (by simp) (by simp)]; rfl) rfl,
    runF'_next (k := 2) (f := 2) (l := ⟨2, [102, 105, 108, 101], []⟩) (op := 50) (s' := ⟨[], some (leafNd [97]), 1, []⟩) rfl (by omega) rfl rfl rfl,
    runF'_end (k := 3) (f := 1) rfl]
  rfl
theorem runS4 : runF' W0 1 lsS4 3 5 0 0 ⟨[], none, 0, []⟩ = some (3, .error 42) := by
  rw [runF'_next (k := 0) (f := 4) (l := ⟨0, wPush, []⟩) (op := 33) (s' := ⟨[[]], none, 0, []⟩) rfl (by omega) rfl (by show some (ofO _ _ (putR [] [[]])) = _; rw [putR1 (by simp) (by simp)]; rfl) rfl,
    runF'_next (k := 1) (f := 3) (l := ⟨1, wPush, [97, 98]⟩) (op := 33) (s' := ⟨[[], [97, 98]], none, 0, []⟩) rfl (by omega) rfl (by show some (ofO _ _ (putR [[]] [[97, 98]])) = _; rw [putR1 (by simp) (by simp)]; rfl) rfl,
    runF'_err (k := 2) (f := 2) (l := ⟨2, [102, 105, 108, 101], []⟩) (op := 50) (e := 42) rfl (by omega) rfl rfl]
  rfl
theorem runS5 : runF' W0 1 lsS3 2 4 0 0 ⟨[], none, 0, []⟩ = some (3, .error 42) := by
  rw [runF'_next (k := 0) (f := 3) (l := ⟨0, wPush, []⟩) (op := 33) (s' := ⟨[[]], none, 0, []⟩) rfl (by omega) rfl (by show some (ofO _ _ (putR [] [[]])) = _; rw [putR1 (by simp) (by simp)]; rfl) rfl,
    runF'_next (k := 1) (f := 2) (l := ⟨1, wPush, [97]⟩) (op := 33) (s' := ⟨[[], [97]], none, 0, []⟩) rfl (by omega) rfl (by show some (ofO _ _ (putR [[]] [[97]])) = _; rw [putR1 (by simp) (by simp)]; rfl) rfl,
    runF'_quota (k := 2) (f := 1) (l := ⟨2, [102, 105, 108, 101], []⟩) rfl (by omega)]
  rfl

section
variable {V : World}
theorem w0_is (hs : 0 < V.heap.size) : WdIs V.heap.size W0 (.slice none 0 0) (.slice none 0 0) (.slice none 0 0) V :=
  ⟨⟨by simp [W0], _, _, rfl, fun h => absurd h (by simp [W0])⟩, ⟨by simp [W0], _, _, rfl, fun h => absurd h (by simp [W0])⟩, ⟨[], SliceIs.nil _ _ _, rfl⟩, by simp [W0]⟩
theorem callS1 (hg : Glob V) (steps bytes : Nat) (h1 : 1 ≤ steps) (h2 : steps ≤ 1024) (h3 : 1 ≤ bytes) (h4 : bytes ≤ 1024) :
    Calls Tryz.prog 8 #[.string (bs progS1), .agg #[.slice none 0 0, .slice none 0 0, .slice none 0 0], .agg #[.int .i64 steps, .int .i64 bytes]] V (OutPost ⟨zeroNd, (steps : Int) + 1, 42⟩ V) := by
  have hr := runS1 bytes steps steps 0 1 0 [] (by omega) (by omega)
  obtain ⟨i1, i2⟩ := vm_of_run (W := W0) (p := progS1) (ls := lsS1) (steps := steps) (bytes := bytes) readS1 (by simp [argsBad]; omega) (n := steps + 1) (r := .error 42) (by rw [← hr]; congr 1; omega) (fun s hs => by cases hs)
  exact vm_Run (by simp [progS1]) smS1 i1 hg (w0_is (by have := hg.size; omega)) lenS1 i2
theorem callS2 (hg : Glob V) (bytes : Nat) (h3 : 1 ≤ bytes) (h4 : bytes ≤ 1024) :
    ∃ m, Calls Tryz.prog 8 #[.string (bs progS2), .agg #[.slice none 0 0, .slice none 0 0, .slice none 0 0], .agg #[.int .i64 20000, .int .i64 bytes]] V (OutPost ⟨zeroNd, m, 42⟩ V) := by
  obtain ⟨m, hr⟩ := runS2 bytes h4
  obtain ⟨i1, i2⟩ := vm_of_run (W := W0) (p := progS2) (ls := lsS2) (steps := 20000) (bytes := bytes) readS2 (by simp [argsBad]; omega) (n := m) (r := .error 42) hr (fun s hs => by cases hs)
  exact ⟨m, vm_Run (by simp [progS2]) smS2 i1 hg (w0_is (by have := hg.size; omega)) lenS2 i2⟩
theorem callS3 (hg : Glob V) : Calls Tryz.prog 8 #[.string (bs progS3), .agg #[.slice none 0 0, .slice none 0 0, .slice none 0 0], .agg #[.int .i64 3, .int .i64 1]] V (OutPost ⟨leafNd [97], 3, 0⟩ V) := by
  obtain ⟨i1, i2⟩ := vm_of_run (W := W0) (p := progS3) (ls := lsS3) (steps := 3) (bytes := 1) readS3 (by simp [argsBad]) runS3 (fun s hs => by injection hs with hs; subst hs; exact leaf_ok _)
  rw [endLeaf [97] (by simp)] at i1
  exact vm_Run (by simp [progS3]) smS3 i1 hg (w0_is (by have := hg.size; omega)) lenS3 i2
theorem callS4 (hg : Glob V) : Calls Tryz.prog 8 #[.string (bs progS4), .agg #[.slice none 0 0, .slice none 0 0, .slice none 0 0], .agg #[.int .i64 3, .int .i64 1]] V (OutPost ⟨zeroNd, 3, 42⟩ V) := by
  obtain ⟨i1, i2⟩ := vm_of_run (W := W0) (p := progS4) (ls := lsS4) (steps := 3) (bytes := 1) readS4 (by simp [argsBad]) runS4 (fun s hs => by cases hs)
  exact vm_Run (by simp [progS4]) smS4 i1 hg (w0_is (by have := hg.size; omega)) lenS4 i2
theorem callS5 (hg : Glob V) : Calls Tryz.prog 8 #[.string (bs progS3), .agg #[.slice none 0 0, .slice none 0 0, .slice none 0 0], .agg #[.int .i64 2, .int .i64 1]] V (OutPost ⟨zeroNd, 3, 42⟩ V) := by
  obtain ⟨i1, i2⟩ := vm_of_run (W := W0) (p := progS3) (ls := lsS3) (steps := 2) (bytes := 1) readS3 (by simp [argsBad]) runS5 (fun s hs => by cases hs)
  exact vm_Run (by simp [progS3]) smS3 i1 hg (w0_is (by have := hg.size; omega)) lenS3 i2
end
end Go.Proofs.YtejpkjcjoengbaaGreatDoor
