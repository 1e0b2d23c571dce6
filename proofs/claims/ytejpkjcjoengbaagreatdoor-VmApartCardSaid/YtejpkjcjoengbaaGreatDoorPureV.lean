/-
  The plain law of VmApart: what its program comes to in a world that has the law's own input.
-/
import Derived.Test.YtejpkjcjoengbaaGreatDoorPureS
set_option linter.unusedVariables false
set_option linter.unusedSimpArgs false
namespace Go.Proofs.YtejpkjcjoengbaaGreatDoor
open Go.RowKit

def progV : List UInt8 := [112, 117, 115, 104, 32, 34, 111, 117, 116, 34, 10, 112, 117, 115, 104, 32, 34, 47, 105, 110, 47, 97, 34, 10, 114, 101, 97, 100, 10, 102, 105, 108, 101, 10, 112, 117, 115, 104, 32, 34, 108, 34, 10, 112, 117, 115, 104, 32, 34, 47, 105, 110, 34, 10, 108, 105, 115, 116, 10, 102, 105, 108, 101]
def lsV : List PLine := [⟨0, wPush, [111, 117, 116]⟩, ⟨1, wPush, [47, 105, 110, 47, 97]⟩, ⟨2, [114, 101, 97, 100], []⟩, ⟨3, [102, 105, 108, 101], []⟩, ⟨4, wPush, [108]⟩, ⟨5, wPush, [47, 105, 110]⟩, ⟨6, [108, 105, 115, 116], []⟩, ⟨7, [102, 105, 108, 101], []⟩]
theorem readV : readF (splitLines progV) = some ⟨lsV, 0, 0⟩ := by kernel_rfl
theorem smV : ∀ l ∈ splitLines progV, l.length ≤ 60000 := by
  have : (splitLines progV).all (fun l => decide (l.length ≤ 60000)) = true := by kernel_rfl
  intro l hl
  simpa using List.all_eq_true.1 this l hl
theorem lenV : ∀ r, readF (splitLines progV) = some r → r.lines.length ≤ 4096 ∧ ∀ x ∈ r.lines, x.text.length ≤ 60000 := by
  intro r h
  rw [readV] at h
  injection h with h
  subst h
  refine ⟨by simp [lsV], fun x hx => ?_⟩
  have : lsV.all (fun x => decide (x.text.length ≤ 60000)) = true := by kernel_rfl
  simpa using List.all_eq_true.1 this x hx
def pA : List UInt8 := [47, 105, 110, 47, 97]
def dirA (o : Nd) : Nd := .mk 2 false [] [[97], [98]] [leafNd [120], o]
def ab4 : List UInt8 := [97, 10, 98, 10]
def outV1 : Nd := .mk 2 false [] [[111, 117, 116]] [leafNd [120]]
def outV : Nd := .mk 2 false [] [[108], [111, 117, 116]] [leafNd ab4, leafNd [120]]
theorem place1 : placeF emptyDir [[111, 117, 116]] (leafNd [120]) = .ok outV1 := by rfl
theorem place2 : placeF outV1 [[108]] (leafNd ab4) = .ok outV := by rfl
theorem emit1 : emitF 1000 ⟨[], none, 0, []⟩ [111, 117, 116] (leafNd [120]) = .ok ⟨[], some outV1, 1, []⟩ := by
  have hs : splitSl [111, 117, 116] = [[111, 117, 116]] := by kernel_rfl
  unfold emitF
  rw [if_neg (by simp), hs, if_neg (by rw [List.all_cons, right_name (by kernel_rfl) (by simp)]; simp)]
  show (match placeF emptyDir [[111, 117, 116]] (leafNd [120]) with | .error x => Except.error x | .ok t => doneF 1000 (⟨[], none, 0, []⟩ : MSt) (leafNd [120]) t) = _
  rw [place1]
  rfl
theorem emit2 : emitF 1000 ⟨[], some outV1, 1, []⟩ [108] (leafNd ab4) = .ok ⟨[], some outV, 5, []⟩ := by
  have hs : splitSl [108] = [[108]] := by kernel_rfl
  unfold emitF
  rw [if_neg (by simp), hs, if_neg (by rw [List.all_cons, right_name (by kernel_rfl) (by simp)]; simp)]
  show (match placeF outV1 [[108]] (leafNd ab4) with | .error x => Except.error x | .ok t => doneF 1000 (⟨[], some outV1, 1, []⟩ : MSt) (leafNd ab4) t) = _
  rw [place2]
  rfl
theorem runV (W : Wd) (o : Nd) (h1 : inputF W.inputs pA = some (leafNd [120])) (h2 : inputF W.inputs pIn = some (dirA o)) : runF' W 1000 lsV 100 102 0 0 ⟨[], none, 0, []⟩ = some (8, .ok ⟨[], some outV, 5, []⟩) := by
  have hr : readR W.inputs [[111, 117, 116], pA] = putR [[111, 117, 116]] [[120]] := by
    show (match inputF W.inputs pA with | some n => if n.kind = 1 ∨ n.kind = 3 then putR [[111, 117, 116]] [n.data] else .error 44 | none => .error 44) = _
    rw [h1]
    exact if_pos (.inl rfl)
  have hl : listR W.inputs [[108], pIn] = putR [[108]] [ab4] := by
    show (match inputF W.inputs pIn with | some n => if n.kind = 2 then putR [[108]] [joinN n.names] else .error 44 | none => .error 44) = _
    rw [h2]
    exact if_pos rfl
  have hlo : listOk W.inputs [[108], pIn] = true := by
    show (match inputF W.inputs pIn with | some n => decide (entriesF n.names ≤ 1000000000000) | none => true) = true
    rw [h2]
    exact decide_eq_true (by simp [dirA, Nd.names, entriesF])
  rw [runF'_next (k := 0) (f := 101) (l := ⟨0, wPush, [111, 117, 116]⟩) (op := 33) (s' := ⟨[[111, 117, 116]], none, 0, []⟩) rfl (by omega) rfl (by show some (ofO _ _ (putR [] [[111, 117, 116]])) = _; rw [putR1 (by simp) (by simp)]; rfl) rfl,
    runF'_next (k := 1) (f := 100) (l := ⟨1, wPush, pA⟩) (op := 33) (s' := ⟨[[111, 117, 116], pA], none, 0, []⟩) rfl (by omega) rfl (by show some (ofO _ _ (putR [[111, 117, 116]] [pA])) = _; rw [putR1 (by simp [pA]) (by simp)]; rfl) rfl,
    runF'_next (k := 2) (f := 99) (l := ⟨2, [114, 101, 97, 100], []⟩) (op := 40) (s' := ⟨[[111, 117, 116], [120]], none, 0, []⟩) rfl (by omega) rfl (by show some (ofO _ _ (readR W.inputs [[111, 117, 116], pA])) = _; rw [hr, putR1 (by simp) (by simp)]; rfl) rfl,
    runF'_next (k := 3) (f := 98) (l := ⟨3, [102, 105, 108, 101], []⟩) (op := 50) (s' := ⟨[], some outV1, 1, []⟩) rfl (by omega) rfl (by show some (emitF 1000 ⟨[], none, 0, []⟩ [111, 117, 116] (leafNd [120])) = _; rw [emit1]) rfl,
    runF'_next (k := 4) (f := 97) (l := ⟨4, wPush, [108]⟩) (op := 33) (s' := ⟨[[108]], some outV1, 1, []⟩) rfl (by omega) rfl (by show some (ofO _ _ (putR [] [[108]])) = _; rw [putR1 (by simp) (by simp)]; rfl) rfl,
    runF'_next (k := 5) (f := 96) (l := ⟨5, wPush, pIn⟩) (op := 33) (s' := ⟨[[108], pIn], some outV1, 1, []⟩) rfl (by omega) rfl (by show some (ofO _ _ (putR [[108]] [pIn])) = _; rw [putR1 (by simp [pIn]) (by simp)]; rfl) rfl,
    runF'_next (k := 6) (f := 95) (l := ⟨6, [108, 105, 115, 116], []⟩) (op := 41) (s' := ⟨[[108], ab4], some outV1, 1, []⟩) rfl (by omega) rfl (by refine (stepF_list ?_).trans ?_; exact hlo; show some (ofO _ _ (listR W.inputs [[108], pIn])) = _; rw [hl, putR1 (by simp [ab4]) (by simp)]; rfl) rfl,
    runF'_next (k := 7) (f := 94) (l := ⟨7, [102, 105, 108, 101], []⟩) (op := 50) (s' := ⟨[], some outV, 5, []⟩) rfl (by omega) rfl (by show some (emitF 1000 ⟨[], some outV1, 1, []⟩ [108] (leafNd ab4)) = _; rw [emit2]) rfl,
    runF'_end (k := 8) (f := 93) rfl]
  rfl
theorem outV_ok : NdOk outV := by simp [outV, leafNd, NdOk, NdsOk, entriesF]
theorem wrong_leaf (y : List UInt8) (hy : y.length ≤ 31744) : wrongF (leafNd y) = 0 := by
  unfold leafNd
  rw [wrongF, if_neg (by simp [kindsB]), if_neg (by simp [entriesF]; omega), if_neg (by simp), if_neg (by simp [namesOk])]
  rfl
theorem count_leaf (y : List UInt8) (r d : Int) (hr : 1 ≤ r) (hd : d ≤ 32) : countF (leafNd y) r d = (1, true) := by
  unfold leafNd
  unfold countF
  rw [if_neg (by omega)]
  rfl
theorem rightV : rightF outV = 0 := by
  have h1 : countF outV 1024 1 = (3, true) := by
    unfold outV
    unfold countF
    rw [if_neg (by omega)]
    rw [countsF, count_leaf _ _ _ (by omega) (by omega), if_pos rfl, countsF, count_leaf _ _ _ (by omega) (by omega), if_pos rfl, countsF]
    rfl
  unfold rightF
  rw [h1]
  show wrongF outV = 0
  have hn : namesOk none [[108], [111, 117, 116]] = true := by kernel_rfl
  unfold outV
  rw [wrongF, if_neg (by simp [kindsB]), if_neg (by simp [entriesF]), if_neg (by simp), if_neg (by rw [hn]; decide)]
  rw [wrongsF, wrong_leaf _ (by simp [ab4]), if_pos rfl, wrongsF, wrong_leaf _ (by simp), if_pos rfl, wrongsF]
theorem callV {W : Wd} {o : Nd} (h1 : inputF W.inputs pA = some (leafNd [120])) (h2 : inputF W.inputs pIn = some (dirA o)) {V : World} (hg : Glob V) {ev av iv : Value} (hW : WdIs V.heap.size W ev av iv V) :
    Calls Tryz.prog 8 #[.string (bs progV), .agg #[ev, av, iv], .agg #[.int .i64 100, .int .i64 1000]] V (OutPost ⟨outV, 8, 0⟩ V) := by
  obtain ⟨i1, i2⟩ := vm_of_run (W := W) (p := progV) (ls := lsV) (steps := 100) (bytes := 1000) readV (by simp [argsBad]) (runV W o h1 h2) (fun s hs => by injection hs with hs; subst hs; exact outV_ok)
  have he : endF 8 (.ok ⟨[], some outV, 5, []⟩) = ⟨outV, 8, 0⟩ := by
    simp only [endF, Option.getD_some]
    rw [rightV, if_pos rfl]
  rw [he] at i1
  exact vm_RunG (by simp [progV]) smV i1 hg hW lenV

/-- The law's name of the other input is none of those that the program names. -/
def nameOk (n : List UInt8) : Prop := 4 ≤ n.length ∧ n.take 4 ≠ [47, 105, 110, 47]
theorem ins1_a (o : Nd) : inputF [(pIn, dirA o)] pA = some (leafNd [120]) := by
  have h1 : ¬ pA = pIn := by decide
  have h2 : Lib.hasPrefix pA (pIn ++ [47]) = true := by kernel_rfl
  have h3 : splitSl (Lib.trimPrefix pA (pIn ++ [47])) = [[97]] := by kernel_rfl
  have h4 : idxF [[97], [98]] [97] = 0 := by kernel_rfl
  rw [inputF, if_neg h1, if_pos h2, h3]
  unfold dirA
  rw [walkF]
  simp only [Nd.kind, Nd.names, Nd.nodes, h4]
  rw [if_neg (by simp)]
  rfl
theorem ins1_in (o : Nd) : inputF [(pIn, dirA o)] pIn = some (dirA o) := by rw [inputF, if_pos rfl]
theorem name_pre {n p : List UInt8} (h : nameOk n) (hp : p = pA ∨ p = pIn) : Lib.hasPrefix p (n ++ [47]) = false := by
  cases hh : Lib.hasPrefix p (n ++ [47]) with
  | false => rfl
  | true =>
    exfalso
    unfold Lib.hasPrefix at hh
    obtain ⟨t, ht⟩ := List.isPrefixOf_iff_prefix.1 hh
    obtain ⟨h1, h2⟩ := h
    have hl := congrArg List.length ht
    simp at hl
    rcases hp with rfl | rfl
    · refine h2 ?_
      have : (n ++ [47] ++ t).take 4 = pA.take 4 := by rw [ht]
      rw [List.append_assoc, List.take_append_of_le_length h1] at this
      exact this
    · simp [pIn] at hl
      omega
theorem name_ne {n p : List UInt8} (h : nameOk n) (hp : p = pA ∨ p = pIn) : ¬ p = n := by
  rintro rfl
  obtain ⟨h1, h2⟩ := h
  rcases hp with rfl | rfl
  · exact h2 rfl
  · simp [pIn] at h1
theorem ins2_a {n : List UInt8} (h : nameOk n) (o : Nd) : inputF [(n, o), (pIn, dirA o)] pA = some (leafNd [120]) := by
  rw [inputF, if_neg (name_ne h (.inl rfl)), if_neg (by rw [name_pre h (.inl rfl)]; decide)]
  exact ins1_a o
theorem ins2_in {n : List UInt8} (h : nameOk n) (o : Nd) : inputF [(n, o), (pIn, dirA o)] pIn = some (dirA o) := by
  rw [inputF, if_neg (name_ne h (.inr rfl)), if_neg (by rw [name_pre h (.inr rfl)]; decide)]
  exact ins1_in o
def othN : List UInt8 := [47, 111, 116, 104, 101, 114]
theorem othN_ok : nameOk othN := by unfold nameOk othN; decide
end Go.Proofs.YtejpkjcjoengbaaGreatDoor
