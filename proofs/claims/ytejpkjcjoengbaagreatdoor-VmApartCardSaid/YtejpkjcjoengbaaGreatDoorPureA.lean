/-
  The plain law of VmCounts: what the machine's plain function answers at its program. (No walk.)
-/
import Derived.Test.YtejpkjcjoengbaaGreatDoorVmT
import Derived.KernelRfl
set_option linter.unusedVariables false
set_option linter.unusedSimpArgs false
namespace Go.Proofs.YtejpkjcjoengbaaGreatDoor
open Go.RowKit

def wLoop : List UInt8 := [108, 111, 111, 112]
def wEnd : List UInt8 := [101, 110, 100]
def progC : List UInt8 := [112, 117, 115, 104, 32, 34, 48, 34, 10, 108, 97, 98, 101, 108, 32, 108, 111, 111, 112, 10, 100, 117, 112, 10, 112, 117, 115, 104, 32, 34, 110, 34, 10, 101, 110, 118, 10, 101, 113, 10, 105, 102, 32, 101, 110, 100, 10, 112, 117, 115, 104, 32, 34, 49, 34, 10, 97, 100, 100, 10, 106, 117, 109, 112, 32, 108, 111, 111, 112, 10, 108, 97, 98, 101, 108, 32, 101, 110, 100, 10, 112, 117, 115, 104, 32, 34, 34, 10, 115, 119, 97, 112, 10, 102, 105, 108, 101]
def lsC : List PLine := [⟨0, wPush, [48]⟩, ⟨1, wLabel, wLoop⟩, ⟨2, [100, 117, 112], []⟩, ⟨3, wPush, [110]⟩, ⟨4, [101, 110, 118], []⟩, ⟨5, [101, 113], []⟩, ⟨6, wIf, wEnd⟩, ⟨7, wPush, [49]⟩, ⟨8, [97, 100, 100], []⟩, ⟨9, wJump, wLoop⟩, ⟨10, wLabel, wEnd⟩, ⟨11, wPush, []⟩, ⟨12, [115, 119, 97, 112], []⟩, ⟨13, [102, 105, 108, 101], []⟩]
theorem readC : readF (splitLines progC) = some ⟨lsC, 0, 0⟩ := by kernel_rfl
theorem smC : ∀ l ∈ splitLines progC, l.length ≤ 60000 := by
  have : (splitLines progC).all (fun l => decide (l.length ≤ 60000)) = true := by kernel_rfl
  intro l hl
  simpa using List.all_eq_true.1 this l hl
theorem allC : (List.range 257).all (fun j => decide (numF (Lib.itoa (j : Int)) = (j : Int)) && decide ((Lib.itoa (j : Int)).length ≤ 3)) = true := by kernel_rfl
theorem numC (j : Nat) (hj : j < 257) : numF (Lib.itoa (j : Int)) = (j : Int) := by
  have := List.all_eq_true.1 allC j (List.mem_range.2 hj)
  simp at this
  exact this.1
theorem lenC (j : Nat) (hj : j < 257) : (Lib.itoa (j : Int)).length ≤ 3 := by
  have := List.all_eq_true.1 allC j (List.mem_range.2 hj)
  simp at this
  exact this.2
theorem injC (j k : Nat) (hj : j < 257) (hk : k < 257) (h : Lib.itoa (j : Int) = Lib.itoa (k : Int)) : j = k := by
  have h1 := numC j hj
  rw [h, numC k hk] at h1
  omega

section
variable {W : Wd} {most : Int} {ls : List PLine} {steps : Int}
theorem runF'_next {f k : Nat} {n : Int} {s s' : MSt} {l : PLine} {op : FuncId} (hl : ls[k]? = some l) (hn : n + 1 ≤ steps) (hop : opF l.word = some op) (hs : stepF W most op l.text { s with lb := [] } = some (.ok s')) (hlb : s'.lb = []) :
    runF' W most ls steps (f + 1) k n s = runF' W most ls steps f (k + 1) (n + 1) s' := by
  rw [runF', hl]
  simp only
  rw [if_neg (by omega), hop]
  simp only
  rw [hs]
  simp only
  rw [if_pos hlb]
theorem runF'_jump {f k : Nat} {n : Int} {s s' : MSt} {l : PLine} {op : FuncId} (hl : ls[k]? = some l) (hn : n + 1 ≤ steps) (hop : opF l.word = some op) (hs : stepF W most op l.text { s with lb := [] } = some (.ok s')) (hlb : s'.lb ≠ []) (j : Nat) (hj : labAt ls s'.lb = j) :
    runF' W most ls steps (f + 1) k n s = runF' W most ls steps f j (n + 1) s' := by
  rw [runF', hl]
  simp only
  rw [if_neg (by omega), hop]
  simp only
  rw [hs]
  simp only
  rw [if_neg hlb, hj]
theorem runF'_err {f k : Nat} {n : Int} {s : MSt} {e : Int} {l : PLine} {op : FuncId} (hl : ls[k]? = some l) (hn : n + 1 ≤ steps) (hop : opF l.word = some op) (hs : stepF W most op l.text { s with lb := [] } = some (.error e)) :
    runF' W most ls steps (f + 1) k n s = some (n + 1, .error e) := by
  rw [runF', hl]
  simp only
  rw [if_neg (by omega), hop]
  simp only
  rw [hs]
theorem runF'_quota {f k : Nat} {n : Int} {s : MSt} {l : PLine} (hl : ls[k]? = some l) (hn : n + 1 > steps) :
    runF' W most ls steps (f + 1) k n s = some (n + 1, .error 42) := by
  rw [runF', hl]
  simp only
  rw [if_pos hn]
theorem runF'_end {f k : Nat} {n : Int} {s : MSt} (hl : ls[k]? = none) : runF' W most ls steps (f + 1) k n s = some (n, .ok s) := by
  rw [runF', hl]
end

theorem putR1 {st : List (List UInt8)} {x : List UInt8} (hx : x.length ≤ 65536) (hs : st.length < 1000) : putR st [x] = .ok (st ++ [x]) := by
  unfold putR putF
  rw [if_neg (by omega)]
  rfl
theorem putR2 {st : List (List UInt8)} {x y : List UInt8} (hx : x.length ≤ 65536) (hy : y.length ≤ 65536) (hs : st.length < 999) : putR st [x, y] = .ok (st ++ [x, y]) := by
  unfold putR putF
  rw [if_neg (by omega)]
  unfold putF
  rw [if_neg (by simp; omega)]
  simp [putF]

def WC (m : Nat) : Wd := ⟨[([110], Lib.itoa (m : Int))], [], []⟩

/-- One round of the loop: its head, up to the test. -/
theorem headC (m j f : Nat) (n : Int) (lb : List UInt8) (hm : m < 256) (hj : j < 257) (hn : n + 9 ≤ 4000) :
    runF' (WC m) 10 lsC 4000 (f + 5) 1 n ⟨[Lib.itoa (j : Int)], none, 0, lb⟩ = runF' (WC m) 10 lsC 4000 f 6 (n + 5) ⟨[Lib.itoa (j : Int), if Lib.itoa (j : Int) = Lib.itoa (m : Int) then [49] else []], none, 0, []⟩ := by
  have h1 := lenC j hj
  have h2 := lenC m (by omega)
  have hWe : (WC m).env = [([110], Lib.itoa (m : Int))] := rfl
  generalize Lib.itoa (j : Int) = J at *
  generalize Lib.itoa (m : Int) = M at *
  rw [runF'_next (k := 1) (l := ⟨1, wLabel, wLoop⟩) (op := 35) (s' := ⟨[J], none, 0, []⟩) rfl (by omega) rfl rfl rfl,
    runF'_next (k := 2) (l := ⟨2, [100, 117, 112], []⟩) (op := 43) (s' := ⟨[J, J], none, 0, []⟩) rfl (by omega) rfl (by show some (ofO _ _ (putR [] [J, J])) = _; rw [putR2 (by omega) (by omega) (by simp)]; rfl) rfl,
    runF'_next (k := 3) (l := ⟨3, wPush, [110]⟩) (op := 33) (s' := ⟨[J, J, [110]], none, 0, []⟩) rfl (by omega) rfl (by show some (ofO _ _ (putR [J, J] [[110]])) = _; rw [putR1 (by simp) (by simp)]; rfl) rfl,
    runF'_next (k := 4) (l := ⟨4, [101, 110, 118], []⟩) (op := 38) (s' := ⟨[J, J, M], none, 0, []⟩) rfl (by omega) rfl (by show some (ofO _ _ (envR (WC m).env [J, J, [110]])) = _; rw [hWe]; show some (ofO _ _ (putR [J, J] [M])) = _; rw [putR1 (by omega) (by simp)]; rfl) rfl,
    runF'_next (k := 5) (l := ⟨5, [101, 113], []⟩) (op := 47) (s' := ⟨[J, if J = M then [49] else []], none, 0, []⟩) rfl (by omega) rfl (by show some (ofO _ _ (putR [J] [if J = M then [49] else []])) = _; rw [putR1 (by split <;> simp) (by simp)]; rfl) rfl]
  congr 1
  omega
/-- .. where it goes round. -/
theorem roundC (m j f : Nat) (n : Int) (lb : List UInt8) (hm : m < 256) (hj : j < m) (hn : n + 9 ≤ 4000) :
    runF' (WC m) 10 lsC 4000 (f + 9) 1 n ⟨[Lib.itoa (j : Int)], none, 0, lb⟩ = runF' (WC m) 10 lsC 4000 f 1 (n + 9) ⟨[Lib.itoa ((j + 1 : Nat) : Int)], none, 0, wLoop⟩ := by
  have hne : Lib.itoa (j : Int) ≠ Lib.itoa (m : Int) := fun e => by have := injC j m (by omega) (by omega) e; omega
  rw [headC m j (f + 4) n lb hm (by omega) hn, if_neg hne]
  have h1 := lenC j (by omega)
  have h3 := lenC (j + 1) (by omega)
  have hadd : Lib.itoa (numF (Lib.itoa (j : Int)) + numF [49]) = Lib.itoa ((j + 1 : Nat) : Int) := by
    rw [numC j (by omega)]
    have : numF [49] = 1 := by kernel_rfl
    rw [this]; rfl
  generalize Lib.itoa ((j + 1 : Nat) : Int) = J1 at *
  generalize Lib.itoa (j : Int) = J at *
  rw [runF'_next (k := 6) (l := ⟨6, wIf, wEnd⟩) (op := 37) (s' := ⟨[J], none, 0, []⟩) rfl (by omega) rfl rfl rfl,
    runF'_next (k := 7) (l := ⟨7, wPush, [49]⟩) (op := 33) (s' := ⟨[J, [49]], none, 0, []⟩) rfl (by omega) rfl (by show some (ofO _ _ (putR [J] [[49]])) = _; rw [putR1 (by simp) (by simp)]; rfl) rfl,
    runF'_next (k := 8) (l := ⟨8, [97, 100, 100], []⟩) (op := 48) (s' := ⟨[J1], none, 0, []⟩) rfl (by omega) rfl (by show some (ofO _ _ (putR [] [Lib.itoa (numF J + numF [49])])) = _; rw [hadd, putR1 (by omega) (by simp)]; rfl) rfl,
    runF'_jump (k := 9) (l := ⟨9, wJump, wLoop⟩) (op := 36) (s' := ⟨[J1], none, 0, wLoop⟩) rfl (by omega) rfl rfl (by simp [wLoop]) 1 rfl]
  congr 1
  omega
theorem roundsC (m f : Nat) (hm : m < 256) : ∀ (d j : Nat) (n : Int) (lb : List UInt8), j + d = m → n + 9 * d + 9 ≤ 4000 → ∃ lb', runF' (WC m) 10 lsC 4000 (f + 9 * d) 1 n ⟨[Lib.itoa (j : Int)], none, 0, lb⟩ = runF' (WC m) 10 lsC 4000 f 1 (n + 9 * d) ⟨[Lib.itoa (m : Int)], none, 0, lb'⟩
  | 0, j, n, lb, hj, hn => ⟨lb, by
    obtain rfl : j = m := by omega
    rw [show f + 9 * 0 = f by omega, show n + 9 * ((0 : Nat) : Int) = n by omega]⟩
  | d + 1, j, n, lb, hj, hn => by
    obtain ⟨lb', h⟩ := roundsC m f hm d (j + 1) (n + 9) wLoop (by omega) (by omega)
    refine ⟨lb', ?_⟩
    have hf : f + 9 * (d + 1) = f + 9 * d + 9 := by omega
    rw [hf, roundC m j (f + 9 * d) n lb hm (by omega) (by omega), h]
    congr 1
    omega
theorem runC (m : Nat) (hm : m < 256) : runF' (WC m) 10 lsC 4000 4002 0 0 ⟨[], none, 0, []⟩ = some (1 + 9 * (m : Int) + 6 + 4, .ok ⟨[], some (.mk 1 false (Lib.itoa (m : Int)) [] []), (Lib.itoa (m : Int)).length, []⟩) := by
  have h2 := lenC m (by omega)
  obtain ⟨g, hg⟩ : ∃ g : Nat, 4002 = g + 16 + 9 * m + 1 := ⟨4002 - 17 - 9 * m, by omega⟩
  rw [hg, runF'_next (k := 0) (l := ⟨0, wPush, [48]⟩) (op := 33) (s' := ⟨[[48]], none, 0, []⟩) rfl (by omega) rfl (by show some (ofO _ _ (putR [] [[48]])) = _; rw [putR1 (by simp) (by simp)]; rfl) rfl]
  have h48 : ([48] : List UInt8) = Lib.itoa ((0 : Nat) : Int) := by kernel_rfl
  obtain ⟨lb, hr⟩ := roundsC m (g + 16) hm m 0 (0 + 1) [] (by omega) (by omega)
  rw [h48, hr]
  have hh := headC m m (g + 11) (0 + 1 + 9 * (m : Int)) lb hm (by omega) (by omega)
  rw [if_pos rfl] at hh
  rw [show g + 16 = g + 11 + 5 by omega, hh]
  generalize Lib.itoa (m : Int) = M at *
  rw [runF'_jump (k := 6) (f := g + 10) (l := ⟨6, wIf, wEnd⟩) (op := 37) (s' := ⟨[M], none, 0, wEnd⟩) rfl (by omega) rfl rfl (by simp [wEnd]) 10 rfl,
    runF'_next (k := 10) (f := g + 9) (l := ⟨10, wLabel, wEnd⟩) (op := 35) (s' := ⟨[M], none, 0, []⟩) rfl (by omega) rfl rfl rfl,
    runF'_next (k := 11) (f := g + 8) (l := ⟨11, wPush, []⟩) (op := 33) (s' := ⟨[M, []], none, 0, []⟩) rfl (by omega) rfl (by show some (ofO _ _ (putR [M] [[]])) = _; rw [putR1 (by simp) (by simp)]; rfl) rfl,
    runF'_next (k := 12) (f := g + 7) (l := ⟨12, [115, 119, 97, 112], []⟩) (op := 44) (s' := ⟨[[], M], none, 0, []⟩) rfl (by omega) rfl (by show some (ofO _ _ (putR [] [[], M])) = _; rw [putR2 (by simp) (by omega) (by simp)]; rfl) rfl,
    runF'_next (k := 13) (f := g + 6) (l := ⟨13, [102, 105, 108, 101], []⟩) (op := 50) (s' := ⟨[], some (.mk 1 false M [] []), M.length, []⟩) rfl (by omega) rfl (by
      show some (if (0 : Int) + (M.length : Int) > 10 then _ else _) = _
      rw [if_neg (by omega)]
      simp [Nd.data]) rfl,
    runF'_end (k := 14) (f := g + 5) rfl]
  congr 2
theorem rightLeaf (y : List UInt8) (hy : y.length ≤ 31744) : rightF (.mk 1 false y [] []) = 0 := by
  have h1 : countF (.mk 1 false y [] []) 1024 1 = (1, true) := by
    unfold countF
    rw [if_neg (by omega)]
    rfl
  unfold rightF
  rw [h1]
  show wrongF (.mk 1 false y [] []) = 0
  rw [wrongF, if_neg (by simp [kindsB]), if_neg (by simp [entriesF]; omega), if_neg (by simp), if_neg (by simp [namesOk])]
  rfl
theorem vmC (m : Nat) (hm : m < 256) : vmF (WC m) progC 4000 10 = some ⟨.mk 1 false (Lib.itoa (m : Int)) [] [], 1 + 9 * (m : Int) + 6 + 4, 0⟩ := by
  unfold vmF
  rw [readC]
  simp only
  rw [if_neg (by simp), if_neg (by simp [argsBad])]
  have : ((4000 : Int).toNat + 2) = 4002 := rfl
  rw [this, runC m hm]
  simp only [endF, Option.getD_some]
  rw [rightLeaf _ (by have := lenC m (by omega); omega), if_pos rfl]
theorem vmC_ok (m : Nat) (hm : m < 256) : ∀ r n s, readF (splitLines progC) = some r → runF' (WC m) 10 r.lines 4000 ((4000 : Int).toNat + 2) 0 0 ⟨[], none, 0, []⟩ = some (n, .ok s) → NdOk (s.out.getD emptyDir) := by
  intro r n s h1 h2
  rw [readC] at h1
  injection h1 with h1
  subst h1
  have : ((4000 : Int).toNat + 2) = 4002 := rfl
  rw [this, runC m hm] at h2
  injection h2 with h2
  injection h2 with _ h2
  injection h2 with h2
  subst h2
  simp [NdOk, NdsOk, entriesF]
theorem lenProgC : ∀ r, readF (splitLines progC) = some r → r.lines.length ≤ 4096 ∧ ∀ x ∈ r.lines, x.text.length ≤ 60000 := by
  intro r h
  rw [readC] at h
  injection h with h
  subst h
  refine ⟨by simp [lsC], fun x hx => ?_⟩
  have : lsC.all (fun x => decide (x.text.length ≤ 60000)) = true := by kernel_rfl
  simpa using List.all_eq_true.1 this x hx
end Go.Proofs.YtejpkjcjoengbaaGreatDoor
