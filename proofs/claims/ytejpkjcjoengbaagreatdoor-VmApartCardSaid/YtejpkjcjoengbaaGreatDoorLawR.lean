/-
  The law VmReads, by walk.
-/
import Derived.Test.YtejpkjcjoengbaaGreatDoorBase
import Derived.Laws.BitsAllLaws
import Derived.Test.YtejpkjcjoengbaaGreatDoorPureA
import Derived.Test.YtejpkjcjoengbaaGreatDoorConv
import Derived.Laws.Tables
import Derived.Lib.SlBytesConst
set_option linter.unusedVariables false
set_option linter.unusedSimpArgs false
namespace Go.Proofs.YtejpkjcjoengbaaGreatDoor
open Go.RowKit

theorem and_mask (n : Int) (mk : Nat) (hmk : ∀ x : Nat, x &&& mk = x % (mk + 1)) (hlt : mk < 4611686018427387904) : ∃ m : Nat, m ≤ mk ∧ bits .and .i64 n (mk : Int) = (m : Int) := by
  refine ⟨(BitVec.ofInt 64 n).toNat % (mk + 1), by have := Nat.mod_lt (BitVec.ofInt 64 n).toNat (show 0 < mk + 1 by omega); omega, ?_⟩
  have hb : (BitVec.ofInt 64 (mk : Int)).toNat = mk := by
    rw [BitVec.toNat_ofInt]
    omega
  have hm := Nat.mod_lt (BitVec.ofInt 64 n).toNat (show 0 < mk + 1 by omega)
  have key : bits .and .i64 n (mk : Int) = IntKind.i64.wrap (((BitVec.ofInt 64 n &&& BitVec.ofInt 64 (mk : Int)) : BitVec 64).toNat : Int) := rfl
  rw [key, BitVec.toNat_and, hb, hmk]
  generalize (BitVec.ofInt 64 n).toNat % (mk + 1) = r at *
  have hr : (r : Int) % 18446744073709551616 = r := by omega
  simp [IntKind.wrap, IntKind.bits, IntKind.signed, hr]
  omega
theorem and255 (n : Int) : ∃ m : Nat, m ≤ 255 ∧ bits .and .i64 n 255 = (m : Int) := and_mask n 255 (fun x => Nat.and_two_pow_sub_one_eq_mod x 8) (by decide)
theorem and15 (n : Int) : ∃ m : Nat, m ≤ 15 ∧ bits .and .i64 n 15 = (m : Int) := and_mask n 15 (fun x => Nat.and_two_pow_sub_one_eq_mod x 4) (by decide)
theorem and1023 (n : Int) : ∃ m : Nat, m ≤ 1023 ∧ bits .and .i64 n 1023 = (m : Int) := and_mask n 1023 (fun x => Nat.and_two_pow_sub_one_eq_mod x 10) (by decide)
end Go.Proofs.YtejpkjcjoengbaaGreatDoor
set_option linter.unusedVariables false
set_option linter.unusedSimpArgs false
namespace Go.Proofs.YtejpkjcjoengbaaGreatDoor
open Go.RowKit

def progR1 : List UInt8 := [112, 117, 115, 104, 32, 34, 34, 10, 112, 117, 115, 104, 32, 34, 48, 34, 10, 97, 114, 103, 10, 114, 101, 97, 100, 10, 102, 105, 108, 101]
def lsR1 : List PLine := [⟨0, wPush, []⟩, ⟨1, wPush, [48]⟩, ⟨2, [97, 114, 103], []⟩, ⟨3, [114, 101, 97, 100], []⟩, ⟨4, [102, 105, 108, 101], []⟩]
theorem readR1 : readF (splitLines progR1) = some ⟨lsR1, 0, 0⟩ := by kernel_rfl
theorem smR1 : ∀ l ∈ splitLines progR1, l.length ≤ 60000 := by
  have : (splitLines progR1).all (fun l => decide (l.length ≤ 60000)) = true := by kernel_rfl
  intro l hl
  simpa using List.all_eq_true.1 this l hl
theorem lenR1 : ∀ r, readF (splitLines progR1) = some r → r.lines.length ≤ 4096 ∧ ∀ x ∈ r.lines, x.text.length ≤ 60000 := by
  intro r h
  rw [readR1] at h
  injection h with h
  subst h
  refine ⟨by simp [lsR1], fun x hx => ?_⟩
  have : lsR1.all (fun x => decide (x.text.length ≤ 60000)) = true := by kernel_rfl
  simpa using List.all_eq_true.1 this x hx
def progR2 : List UInt8 := [112, 117, 115, 104, 32, 34, 48, 34, 10, 97, 114, 103, 10, 112, 117, 115, 104, 32, 34, 47, 110, 111, 34, 10, 99, 97, 116, 10, 114, 101, 97, 100]
def lsR2 : List PLine := [⟨0, wPush, [48]⟩, ⟨1, [97, 114, 103], []⟩, ⟨2, wPush, [47, 110, 111]⟩, ⟨3, [99, 97, 116], []⟩, ⟨4, [114, 101, 97, 100], []⟩]
theorem readR2 : readF (splitLines progR2) = some ⟨lsR2, 0, 0⟩ := by kernel_rfl
theorem smR2 : ∀ l ∈ splitLines progR2, l.length ≤ 60000 := by
  have : (splitLines progR2).all (fun l => decide (l.length ≤ 60000)) = true := by kernel_rfl
  intro l hl
  simpa using List.all_eq_true.1 this l hl
theorem lenR2 : ∀ r, readF (splitLines progR2) = some r → r.lines.length ≤ 4096 ∧ ∀ x ∈ r.lines, x.text.length ≤ 60000 := by
  intro r h
  rw [readR2] at h
  injection h with h
  subst h
  refine ⟨by simp [lsR2], fun x hx => ?_⟩
  have : lsR2.all (fun x => decide (x.text.length ≤ 60000)) = true := by kernel_rfl
  simpa using List.all_eq_true.1 this x hx
def progR3 : List UInt8 := [112, 117, 115, 104, 32, 34, 34, 10, 112, 117, 115, 104, 32, 34, 47, 105, 110, 34, 10, 108, 105, 115, 116, 10, 102, 105, 108, 101]
def lsR3 : List PLine := [⟨0, wPush, []⟩, ⟨1, wPush, [47, 105, 110]⟩, ⟨2, [108, 105, 115, 116], []⟩, ⟨3, [102, 105, 108, 101], []⟩]
theorem readR3 : readF (splitLines progR3) = some ⟨lsR3, 0, 0⟩ := by kernel_rfl
theorem smR3 : ∀ l ∈ splitLines progR3, l.length ≤ 60000 := by
  have : (splitLines progR3).all (fun l => decide (l.length ≤ 60000)) = true := by kernel_rfl
  intro l hl
  simpa using List.all_eq_true.1 this l hl
theorem lenR3 : ∀ r, readF (splitLines progR3) = some r → r.lines.length ≤ 4096 ∧ ∀ x ∈ r.lines, x.text.length ≤ 60000 := by
  intro r h
  rw [readR3] at h
  injection h with h
  subst h
  refine ⟨by simp [lsR3], fun x hx => ?_⟩
  have : lsR3.all (fun x => decide (x.text.length ≤ 60000)) = true := by kernel_rfl
  simpa using List.all_eq_true.1 this x hx
def progR4 : List UInt8 := [112, 117, 115, 104, 32, 34, 49, 34, 10, 97, 114, 103]
def lsR4 : List PLine := [⟨0, wPush, [49]⟩, ⟨1, [97, 114, 103], []⟩]
theorem readR4 : readF (splitLines progR4) = some ⟨lsR4, 0, 0⟩ := by kernel_rfl
theorem smR4 : ∀ l ∈ splitLines progR4, l.length ≤ 60000 := by
  have : (splitLines progR4).all (fun l => decide (l.length ≤ 60000)) = true := by kernel_rfl
  intro l hl
  simpa using List.all_eq_true.1 this l hl
theorem lenR4 : ∀ r, readF (splitLines progR4) = some r → r.lines.length ≤ 4096 ∧ ∀ x ∈ r.lines, x.text.length ≤ 60000 := by
  intro r h
  rw [readR4] at h
  injection h with h
  subst h
  refine ⟨by simp [lsR4], fun x hx => ?_⟩
  have : lsR4.all (fun x => decide (x.text.length ≤ 60000)) = true := by kernel_rfl
  simpa using List.all_eq_true.1 this x hx

def leafNd (y : List UInt8) : Nd := .mk 1 false y [] []
def ndD (y : List UInt8) : Nat → Nd
  | 0 => leafNd y
  | k + 1 => .mk 2 false [] [[97], [100]] [.mk 3 false [120] [] [], ndD y k]
def pIn : List UInt8 := [47, 105, 110]
def pathD : Nat → List UInt8
  | 0 => pIn
  | k + 1 => pathD k ++ [47, 100]
def WR (y : List UInt8) (k : Nat) : Wd := ⟨[], [pathD k], [(pIn, ndD y k)]⟩
theorem ndD_ok (y : List UInt8) : ∀ k, NdOk (ndD y k)
  | 0 => by simp [ndD, leafNd, NdOk, NdsOk, entriesF]
  | k + 1 => by
    have := ndD_ok y k
    simp [ndD, NdOk, NdsOk, entriesF, this]
theorem path_all : (List.range 16).all (fun k => decide ((pathD k).length ≤ 1000) && (decide (k = 0) || (decide (pathD k ≠ pIn) && Lib.hasPrefix (pathD k) (pIn ++ [47]) && decide (splitSl (Lib.trimPrefix (pathD k) (pIn ++ [47])) = List.replicate k [100]))) &&
    (decide (pathD k ++ [47, 110, 111] ≠ pIn) && Lib.hasPrefix (pathD k ++ [47, 110, 111]) (pIn ++ [47]) && decide (splitSl (Lib.trimPrefix (pathD k ++ [47, 110, 111]) (pIn ++ [47])) = List.replicate k [100] ++ [[110, 111]]))) = true := by kernel_rfl
theorem idx_d : idxF [[97], [100]] [100] = 1 := by kernel_rfl
theorem walk_d (y : List UInt8) (rest : List (List UInt8)) : ∀ k, walkF (ndD y k) (List.replicate k [100] ++ rest) = walkF (leafNd y) rest
  | 0 => rfl
  | k + 1 => by
    show walkF (.mk 2 false [] [[97], [100]] [.mk 3 false [120] [] [], ndD y k]) ([100] :: (List.replicate k [100] ++ rest)) = _
    rw [walkF]
    simp only [Nd.kind, Nd.names, Nd.nodes, idx_d]
    rw [if_neg (by simp)]
    exact walk_d y rest k
theorem path_len (k : Nat) (hk : k < 16) : (pathD k).length ≤ 1000 := by
  have := List.all_eq_true.1 path_all k (List.mem_range.2 hk)
  simp only [Bool.and_eq_true, decide_eq_true_eq] at this
  exact this.1.1
theorem in_path (y : List UInt8) (k : Nat) (hk : k < 16) : inputF (WR y k).inputs (pathD k) = some (leafNd y) := by
  have h := List.all_eq_true.1 path_all k (List.mem_range.2 hk)
  simp only [Bool.and_eq_true, Bool.or_eq_true, decide_eq_true_eq] at h
  obtain ⟨⟨_, h1⟩, _⟩ := h
  show inputF [(pIn, ndD y k)] (pathD k) = _
  rw [inputF]
  rcases h1 with h1 | ⟨⟨h1, h2⟩, h3⟩
  · subst h1
    exact if_pos rfl
  · rw [if_neg h1, if_pos h2, h3]
    have := walk_d y [] k
    rw [List.append_nil] at this
    rw [this]
    rfl
theorem in_no (y : List UInt8) (k : Nat) (hk : k < 16) : inputF (WR y k).inputs (pathD k ++ [47, 110, 111]) = none := by
  have h := List.all_eq_true.1 path_all k (List.mem_range.2 hk)
  simp only [Bool.and_eq_true, Bool.or_eq_true, decide_eq_true_eq] at h
  obtain ⟨_, ⟨h1, h2⟩, h3⟩ := h
  show inputF [(pIn, ndD y k)] (pathD k ++ [47, 110, 111]) = _
  rw [inputF, if_neg h1, if_pos h2, h3, walk_d, walkF, if_pos (.inl (by simp [leafNd, Nd.kind]))]
theorem in_in (y : List UInt8) (k : Nat) : inputF (WR y k).inputs pIn = some (ndD y k) := by
  show inputF [(pIn, ndD y k)] pIn = _
  rw [inputF, if_pos rfl]

theorem runR1 (y : List UInt8) (hy : y.length ≤ 500) (k : Nat) (hk : k < 16) : runF' (WR y k) 2000 lsR1 50 52 0 0 ⟨[], none, 0, []⟩ = some (5, .ok ⟨[], some (leafNd y), y.length, []⟩) := by
  have hp := path_len k hk
  have hin := in_path y k hk
  have ha : argR (WR y k).args [[], [48]] = putR [[]] [pathD k] := by
    have : numF [48] = 0 := by kernel_rfl
    show (if 0 ≤ numF [48] then (match ([pathD k] : List (List UInt8))[(numF [48]).toNat]? with | some y => putR [[]] [y] | none => .error 44) else .error 44) = _
    rw [this]
    rfl
  have hr : readR (WR y k).inputs [[], pathD k] = putR [[]] [y] := by
    show (match inputF (WR y k).inputs (pathD k) with | some n => if n.kind = 1 ∨ n.kind = 3 then putR [[]] [n.data] else .error 44 | none => .error 44) = _
    rw [hin]
    exact if_pos (.inl rfl)
  rw [runF'_next (k := 0) (f := 51) (l := ⟨0, wPush, []⟩) (op := 33) (s' := ⟨[[]], none, 0, []⟩) rfl (by omega) rfl (by show some (ofO _ _ (putR [] [[]])) = _; rw [putR1 (by simp) (by simp)]; rfl) rfl,
    runF'_next (k := 1) (f := 50) (l := ⟨1, wPush, [48]⟩) (op := 33) (s' := ⟨[[], [48]], none, 0, []⟩) rfl (by omega) rfl (by show some (ofO _ _ (putR [[]] [[48]])) = _; rw [putR1 (by simp) (by simp)]; rfl) rfl,
    runF'_next (k := 2) (f := 49) (l := ⟨2, [97, 114, 103], []⟩) (op := 39) (s' := ⟨[[], pathD k], none, 0, []⟩) rfl (by omega) rfl (by show some (ofO _ _ (argR (WR y k).args [[], [48]])) = _; rw [ha, putR1 (by omega) (by simp)]; rfl) rfl,
    runF'_next (k := 3) (f := 48) (l := ⟨3, [114, 101, 97, 100], []⟩) (op := 40) (s' := ⟨[[], y], none, 0, []⟩) rfl (by omega) rfl (by show some (ofO _ _ (readR (WR y k).inputs [[], pathD k])) = _; rw [hr, putR1 (by omega) (by simp)]; rfl) rfl,
    runF'_next (k := 4) (f := 47) (l := ⟨4, [102, 105, 108, 101], []⟩) (op := 50) (s' := ⟨[], some (leafNd y), y.length, []⟩) rfl (by omega) rfl (by
      show some (if (0 : Int) + (y.length : Int) > 2000 then _ else _) = _
      rw [if_neg (by omega)]
      simp [Nd.data, leafNd]) rfl,
    runF'_end (k := 5) (f := 46) rfl]
  rfl
theorem runR2 (y : List UInt8) (k : Nat) (hk : k < 16) : runF' (WR y k) 2000 lsR2 50 52 0 0 ⟨[], none, 0, []⟩ = some (5, .error 44) := by
  have hp := path_len k hk
  have hin := in_no y k hk
  have ha : argR (WR y k).args [[48]] = putR [] [pathD k] := by
    have : numF [48] = 0 := by kernel_rfl
    show (if 0 ≤ numF [48] then (match ([pathD k] : List (List UInt8))[(numF [48]).toNat]? with | some y => putR [] [y] | none => .error 44) else .error 44) = _
    rw [this]
    rfl
  have hr : readR (WR y k).inputs [pathD k ++ [47, 110, 111]] = .error 44 := by
    show (match inputF (WR y k).inputs (pathD k ++ [47, 110, 111]) with | some n => if n.kind = 1 ∨ n.kind = 3 then putR [] [n.data] else .error 44 | none => .error 44) = _
    rw [hin]
  rw [runF'_next (k := 0) (f := 51) (l := ⟨0, wPush, [48]⟩) (op := 33) (s' := ⟨[[48]], none, 0, []⟩) rfl (by omega) rfl (by show some (ofO _ _ (putR [] [[48]])) = _; rw [putR1 (by simp) (by simp)]; rfl) rfl,
    runF'_next (k := 1) (f := 50) (l := ⟨1, [97, 114, 103], []⟩) (op := 39) (s' := ⟨[pathD k], none, 0, []⟩) rfl (by omega) rfl (by show some (ofO _ _ (argR (WR y k).args [[48]])) = _; rw [ha, putR1 (by omega) (by simp)]; rfl) rfl,
    runF'_next (k := 2) (f := 49) (l := ⟨2, wPush, [47, 110, 111]⟩) (op := 33) (s' := ⟨[pathD k, [47, 110, 111]], none, 0, []⟩) rfl (by omega) rfl (by show some (ofO _ _ (putR [pathD k] [[47, 110, 111]])) = _; rw [putR1 (by simp) (by simp)]; rfl) rfl,
    runF'_next (k := 3) (f := 48) (l := ⟨3, [99, 97, 116], []⟩) (op := 42) (s' := ⟨[pathD k ++ [47, 110, 111]], none, 0, []⟩) rfl (by omega) rfl (by show some (ofO _ _ (putR [] [pathD k ++ [47, 110, 111]])) = _; rw [putR1 (by simp; omega) (by simp)]; rfl) rfl,
    runF'_err (k := 4) (f := 47) (l := ⟨4, [114, 101, 97, 100], []⟩) (op := 40) (e := 44) rfl (by omega) rfl (by show some (ofO _ _ (readR (WR y k).inputs [pathD k ++ [47, 110, 111]])) = _; rw [hr]; rfl)]
  rfl
def adNl : List UInt8 := [97, 10, 100, 10]
theorem runR3 (y : List UInt8) (k : Nat) : runF' (WR y (k + 1)) 2000 lsR3 50 52 0 0 ⟨[], none, 0, []⟩ = some (4, .ok ⟨[], some (leafNd adNl), 4, []⟩) := by
  have hin := in_in y (k + 1)
  have hlo : listOk (WR y (k + 1)).inputs [[], pIn] = true := by
    show (match inputF (WR y (k + 1)).inputs pIn with | some n => decide (entriesF n.names ≤ 1000000000000) | none => true) = true
    rw [hin]
    exact decide_eq_true (by simp [ndD, Nd.names, entriesF])
  have hr : listR (WR y (k + 1)).inputs [[], pIn] = putR [[]] [adNl] := by
    show (match inputF (WR y (k + 1)).inputs pIn with | some n => if n.kind = 2 then putR [[]] [joinN n.names] else .error 44 | none => .error 44) = _
    rw [hin]
    exact if_pos rfl
  rw [runF'_next (k := 0) (f := 51) (l := ⟨0, wPush, []⟩) (op := 33) (s' := ⟨[[]], none, 0, []⟩) rfl (by omega) rfl (by show some (ofO _ _ (putR [] [[]])) = _; rw [putR1 (by simp) (by simp)]; rfl) rfl,
    runF'_next (k := 1) (f := 50) (l := ⟨1, wPush, pIn⟩) (op := 33) (s' := ⟨[[], pIn], none, 0, []⟩) rfl (by omega) rfl (by show some (ofO _ _ (putR [[]] [pIn])) = _; rw [putR1 (by simp [pIn]) (by simp)]; rfl) rfl,
    runF'_next (k := 2) (f := 49) (l := ⟨2, [108, 105, 115, 116], []⟩) (op := 41) (s' := ⟨[[], adNl], none, 0, []⟩) rfl (by omega) rfl (by refine (stepF_list ?_).trans ?_; exact hlo; show some (ofO _ _ (listR (WR y (k + 1)).inputs [[], pIn])) = _; rw [hr, putR1 (by simp [adNl]) (by simp)]; rfl) rfl,
    runF'_next (k := 3) (f := 48) (l := ⟨3, [102, 105, 108, 101], []⟩) (op := 50) (s' := ⟨[], some (leafNd adNl), 4, []⟩) rfl (by omega) rfl rfl rfl,
    runF'_end (k := 4) (f := 47) rfl]
  rfl
theorem runR3z (y : List UInt8) : runF' (WR y 0) 2000 lsR3 50 52 0 0 ⟨[], none, 0, []⟩ = some (3, .error 44) := by
  have hin := in_in y 0
  have hlo : listOk (WR y 0).inputs [[], pIn] = true := by
    show (match inputF (WR y 0).inputs pIn with | some n => decide (entriesF n.names ≤ 1000000000000) | none => true) = true
    rw [hin]
    exact decide_eq_true (by simp [ndD, leafNd, Nd.names, entriesF])
  have hr : listR (WR y 0).inputs [[], pIn] = .error 44 := by
    show (match inputF (WR y 0).inputs pIn with | some n => if n.kind = 2 then putR [[]] [joinN n.names] else .error 44 | none => .error 44) = _
    rw [hin]
    exact if_neg (by simp [ndD, leafNd, Nd.kind])
  rw [runF'_next (k := 0) (f := 51) (l := ⟨0, wPush, []⟩) (op := 33) (s' := ⟨[[]], none, 0, []⟩) rfl (by omega) rfl (by show some (ofO _ _ (putR [] [[]])) = _; rw [putR1 (by simp) (by simp)]; rfl) rfl,
    runF'_next (k := 1) (f := 50) (l := ⟨1, wPush, pIn⟩) (op := 33) (s' := ⟨[[], pIn], none, 0, []⟩) rfl (by omega) rfl (by show some (ofO _ _ (putR [[]] [pIn])) = _; rw [putR1 (by simp [pIn]) (by simp)]; rfl) rfl,
    runF'_err (k := 2) (f := 49) (l := ⟨2, [108, 105, 115, 116], []⟩) (op := 41) (e := 44) rfl (by omega) rfl (by refine (stepF_list ?_).trans ?_; exact hlo; show some (ofO _ _ (listR (WR y 0).inputs [[], pIn])) = _; rw [hr]; rfl)]
  rfl
theorem runR4 (y : List UInt8) (k : Nat) : runF' (WR y k) 2000 lsR4 50 52 0 0 ⟨[], none, 0, []⟩ = some (2, .error 44) := by
  have ha : argR (WR y k).args [[49]] = .error 44 := by
    have : numF [49] = 1 := by kernel_rfl
    show (if 0 ≤ numF [49] then (match ([pathD k] : List (List UInt8))[(numF [49]).toNat]? with | some y => putR [] [y] | none => .error 44) else .error 44) = _
    rw [this]
    rfl
  rw [runF'_next (k := 0) (f := 51) (l := ⟨0, wPush, [49]⟩) (op := 33) (s' := ⟨[[49]], none, 0, []⟩) rfl (by omega) rfl (by show some (ofO _ _ (putR [] [[49]])) = _; rw [putR1 (by simp) (by simp)]; rfl) rfl,
    runF'_err (k := 1) (f := 50) (l := ⟨1, [97, 114, 103], []⟩) (op := 39) (e := 44) rfl (by omega) rfl (by show some (ofO _ _ (argR (WR y k).args [[49]])) = _; rw [ha]; rfl)]
  rfl

/-- From a run to the whole: the two facts that vm.Run's contract wants. -/
theorem vm_of_run {W : Wd} {p : List UInt8} {ls : List PLine} {steps bytes : Int} {n : Int} {r : SRes} (hrd : readF (splitLines p) = some ⟨ls, 0, 0⟩) (hq : ¬ argsBad steps bytes) (hr : runF' W bytes ls steps (steps.toNat + 2) 0 0 ⟨[], none, 0, []⟩ = some (n, r))
    (hn : ∀ s, r = .ok s → NdOk (s.out.getD emptyDir)) :
    vmF W p steps bytes = some (endF n r) ∧ ∀ r n s, readF (splitLines p) = some r → runF' W bytes r.lines steps (steps.toNat + 2) 0 0 ⟨[], none, 0, []⟩ = some (n, .ok s) → NdOk (s.out.getD emptyDir) := by
  constructor
  · unfold vmF
    rw [hrd]
    simp only
    rw [if_neg (by simp), if_neg hq, hr]
  · intro r' n' s h1 h2
    rw [hrd] at h1
    injection h1 with h1
    subst h1
    rw [hr] at h2
    injection h2 with h2
    injection h2 with h3 h4
    exact hn s h4
theorem leaf_ok (y : List UInt8) : NdOk (leafNd y) := by simp [leafNd, NdOk, NdsOk, entriesF]
theorem endLeaf (y : List UInt8) (hy : y.length ≤ 31744) (n : Int) (b : Int) : endF n (.ok ⟨[], some (leafNd y), b, []⟩) = ⟨leafNd y, n, 0⟩ := by
  simp only [endF, Option.getD_some]
  rw [show rightF (leafNd y) = 0 from rightLeaf y hy, if_pos rfl]
end Go.Proofs.YtejpkjcjoengbaaGreatDoor
set_option linter.unusedVariables false
set_option linter.unusedSimpArgs false
namespace Go.Proofs.YtejpkjcjoengbaaGreatDoor
open Go.RowKit

theorem cells_at {W : World} {g : Nat} {cs : Array Value} {t : TypeId} {f : Nat × Nat} (h : W.heap[g]? = some (.cells cs t f)) (j : Nat) (x : Value) (hx : cs.toList[j]? = some x) : W.cell? ⟨g, 0 + j, none⟩ = some x := by
  simp only [World.cell?, h, Nat.zero_add]
  simpa using hx
theorem WdIs.up {B B' : Nat} {W : Wd} {ev av iv : Value} {w : World} (h : WdIs B W ev av iv w) (hB : B ≤ B') : WdIs B' W ev av iv w := by
  obtain ⟨⟨a1, A1, c1, rfl, h1⟩, ⟨a2, A2, c2, rfl, h2⟩, ⟨cs, h3, h4⟩, h5⟩ := h
  refine ⟨⟨a1, A1, c1, rfl, fun h => ?_⟩, ⟨a2, A2, c2, rfl, fun h => ?_⟩, ⟨cs, h3.mono (fun k hk => by omega), ?_⟩, h5⟩
  · obtain ⟨g, o, e, hg, hc⟩ := h1 h
    exact ⟨g, o, e, by omega, hc⟩
  · obtain ⟨g, o, e, hg, hc⟩ := h2 h
    exact ⟨g, o, e, by omega, hc⟩
  · have : ∀ (l : List (List UInt8 × Nd)) (cells : List Value), InsIs (fun k => k < B) w l cells → InsIs (fun k => k < B') w l cells := by
      intro l
      induction l with
      | nil => intro cells h; exact h
      | cons x r ih =>
        intro cells h
        obtain ⟨c1, c2, e1, e2, e3⟩ := h
        exact ⟨c1, c2, e1, e2.mono (fun k hk => by omega), ih _ e3⟩
    exact this _ _ h4
theorem wdis_V {wr V : World} {y : List UInt8} {k g : Nat} {kk : Int} {e : Bool} {dA : Option Addr} {dn dc : Nat} {nA : Option Addr} {nn nc : Nat} {sA : Option Addr} {sn sc : Nat} {t0 t1 : TypeId} {f0 f1 : Nat × Nat}
    (hnd : NdIs (fun j => j < wr.heap.size ∧ j ≠ g) wr (ndD y k) [.int .i64 kk, .bool e, .slice dA dn dc, .slice nA nn nc, .slice sA sn sc])
    (hsz : wr.heap.size + 2 ≤ V.heap.size) (hk : ∀ j, j < wr.heap.size → V.heap[j]? = wr.heap[j]?)
    (h0 : V.heap[wr.heap.size]? = some (.cells #[.string (bs (pathD k))] t0 f0))
    (h1 : V.heap[wr.heap.size + 1]? = some (.cells #[.string ⟨#[47, 105, 110]⟩, .int .i64 kk, .bool e, .slice dA dn dc, .slice nA nn nc, .slice sA sn sc] t1 f1)) :
    WdIs V.heap.size (WR y k) (.slice none 0 0) (.slice (some ⟨wr.heap.size, 0, none⟩) 1 1) (.slice (some ⟨wr.heap.size + 1, 0, none⟩) 1 1) V := by
  refine ⟨⟨by simp [WR], _, _, rfl, fun h => absurd h (by simp [WR])⟩, ⟨by simp [WR], _, _, rfl, fun _ => ⟨wr.heap.size, 0, rfl, by omega, fun j x hx => cells_at h0 j x hx⟩⟩, ?_, ?_⟩
  · refine ⟨[.string ⟨#[47, 105, 110]⟩, .int .i64 kk, .bool e, .slice dA dn dc, .slice nA nn nc, .slice sA sn sc], ⟨by simp [WR, maxLen], _, _, rfl, fun _ => ⟨wr.heap.size + 1, 0, rfl, by omega, rfl, fun j x hx => cells_at h1 j x hx⟩⟩, ?_⟩
    exact ⟨[.int .i64 kk, .bool e, .slice dA dn dc, .slice nA nn nc, .slice sA sn sc], [], rfl, (hnd.kept (fun j hj => hk j hj.1)).mono (fun j hj => by have := hj.1; omega), rfl⟩
  · intro x hx
    simp only [WR, List.mem_singleton] at hx
    subst hx
    show pIn.length ≤ _
    simp [pIn]

theorem callR1 {y : List UInt8} (hy : y.length ≤ 500) {k : Nat} (hk : k < 16) {V : World} (hg : Glob V) {ev av iv : Value} (hW : WdIs V.heap.size (WR y k) ev av iv V) :
    Calls Tryz.prog 8 #[.string (bs progR1), .agg #[ev, av, iv], .agg #[.int .i64 50, .int .i64 2000]] V (OutPost ⟨leafNd y, 5, 0⟩ V) := by
  obtain ⟨h1, h2⟩ := vm_of_run (W := WR y k) (p := progR1) (ls := lsR1) (steps := 50) (bytes := 2000) readR1 (by simp [argsBad]) (runR1 y hy k hk) (fun s hs => by injection hs with hs; subst hs; exact leaf_ok y)
  rw [endLeaf y (by omega)] at h1
  exact vm_Run (by simp [progR1]) smR1 h1 hg hW lenR1 h2
theorem callR2 {y : List UInt8} {k : Nat} (hk : k < 16) {V : World} (hg : Glob V) {ev av iv : Value} (hW : WdIs V.heap.size (WR y k) ev av iv V) :
    Calls Tryz.prog 8 #[.string (bs progR2), .agg #[ev, av, iv], .agg #[.int .i64 50, .int .i64 2000]] V (OutPost ⟨zeroNd, 5, 44⟩ V) := by
  obtain ⟨h1, h2⟩ := vm_of_run (W := WR y k) (p := progR2) (ls := lsR2) (steps := 50) (bytes := 2000) readR2 (by simp [argsBad]) (runR2 y k hk) (fun s hs => by cases hs)
  exact vm_Run (by simp [progR2]) smR2 h1 hg hW lenR2 h2
theorem callR3 {y : List UInt8} {k : Nat} {V : World} (hg : Glob V) {ev av iv : Value} (hW : WdIs V.heap.size (WR y (k + 1)) ev av iv V) :
    Calls Tryz.prog 8 #[.string (bs progR3), .agg #[ev, av, iv], .agg #[.int .i64 50, .int .i64 2000]] V (OutPost ⟨leafNd adNl, 4, 0⟩ V) := by
  obtain ⟨h1, h2⟩ := vm_of_run (W := WR y (k + 1)) (p := progR3) (ls := lsR3) (steps := 50) (bytes := 2000) readR3 (by simp [argsBad]) (runR3 y k) (fun s hs => by injection hs with hs; subst hs; exact leaf_ok adNl)
  rw [endLeaf adNl (by simp [adNl])] at h1
  exact vm_Run (by simp [progR3]) smR3 h1 hg hW lenR3 h2
theorem callR3z {y : List UInt8} {V : World} (hg : Glob V) {ev av iv : Value} (hW : WdIs V.heap.size (WR y 0) ev av iv V) :
    Calls Tryz.prog 8 #[.string (bs progR3), .agg #[ev, av, iv], .agg #[.int .i64 50, .int .i64 2000]] V (OutPost ⟨zeroNd, 3, 44⟩ V) := by
  obtain ⟨h1, h2⟩ := vm_of_run (W := WR y 0) (p := progR3) (ls := lsR3) (steps := 50) (bytes := 2000) readR3 (by simp [argsBad]) (runR3z y) (fun s hs => by cases hs)
  exact vm_Run (by simp [progR3]) smR3 h1 hg hW lenR3 h2
theorem callR4 {y : List UInt8} {k : Nat} {V : World} (hg : Glob V) {ev av iv : Value} (hW : WdIs V.heap.size (WR y k) ev av iv V) :
    Calls Tryz.prog 8 #[.string (bs progR4), .agg #[ev, av, iv], .agg #[.int .i64 50, .int .i64 2000]] V (OutPost ⟨zeroNd, 2, 44⟩ V) := by
  obtain ⟨h1, h2⟩ := vm_of_run (W := WR y k) (p := progR4) (ls := lsR4) (steps := 50) (bytes := 2000) readR4 (by simp [argsBad]) (runR4 y k) (fun s hs => by cases hs)
  exact vm_Run (by simp [progR4]) smR4 h1 hg hW lenR4 h2
theorem callR3n {y : List UInt8} {k : Nat} (hk : 0 < k) {V : World} (hg : Glob V) {ev av iv : Value} (hW : WdIs V.heap.size (WR y k) ev av iv V) :
    Calls Tryz.prog 8 #[.string (bs progR3), .agg #[ev, av, iv], .agg #[.int .i64 50, .int .i64 2000]] V (OutPost ⟨leafNd adNl, 4, 0⟩ V) := by
  obtain ⟨k', rfl⟩ : ∃ k', k = k' + 1 := ⟨k - 1, by omega⟩
  exact callR3 hg hW
theorem step_facts {V w1 : World} (hb : Below V.heap.size V w1) (o : Obj) {W : Wd} {ev av iv : Value} (hg : Glob V) (hW : WdIs V.heap.size W ev av iv V) :
    Glob (w1.alloc o) ∧ WdIs (w1.alloc o).heap.size W ev av iv (w1.alloc o) ∧ Below V.heap.size V (w1.alloc o) := by
  have h1 : Below V.heap.size V (w1.alloc o) := hb.alloc hb.size o
  exact ⟨hg.grown h1, (hW.below h1).up h1.size, h1⟩
theorem below_blk {V W : World} (hb : Below V.heap.size V W) {g : Nat} {X : Obj} (h : V.heap[g]? = some X) : W.heap[g]? = some X :=
  (hb.block g (Array.getElem?_eq_some_iff.1 h).1).trans h
theorem blk3 {w : World} {g : Nat} {a b c : Value} {t : TypeId} {f : Nat × Nat} (h : w.heap[g]? = some (.cells #[a, b, c] t f)) :
    w.cell? ⟨g, 0, none⟩ = some a ∧ w.cell? ⟨g, 1, none⟩ = some b ∧ w.cell? ⟨g, 2, none⟩ = some c := by
  refine ⟨?_, ?_, ?_⟩ <;> simp [World.cell?, h]
theorem blk2 {w : World} {g : Nat} {a b : Value} {t : TypeId} {f : Nat × Nat} (h : w.heap[g]? = some (.cells #[a, b] t f)) :
    w.cell? ⟨g, 0, none⟩ = some a ∧ w.cell? ⟨g, 1, none⟩ = some b := by
  refine ⟨?_, ?_⟩ <;> simp [World.cell?, h]
/-- What stays of the calls: the result's cells, and the world. -/
theorem OutPost.mk {o : VmOut} {w w' : World} {e : Ending} (h : OutPost o w e w') : ∃ dA dc nA nc sA sc, e = .returned (.tuple #[.agg #[.int .i64 o.node.kind, .bool o.node.exec, .slice dA o.node.data.length dc, .slice nA o.node.names.length nc, .slice sA o.node.nodes.length sc], .int .i64 o.steps, .int .i64 o.err]) ∧
    SliceIs (fun k => k < w'.heap.size) 1 (.slice dA o.node.data.length dc) o.node.data.length (byteCells o.node.data) w' ∧ Below w.heap.size w w' := by
  obtain ⟨cl, rfl, hnd, hb⟩ := h
  obtain ⟨dA, dc, nA, nc, sA, sc, rfl, h1, _⟩ := hnd.cells
  exact ⟨dA, dc, nA, nc, sA, sc, rfl, h1.mono (fun k hk => hk.2), hb⟩
end Go.Proofs.YtejpkjcjoengbaaGreatDoor
set_option linter.unusedVariables false
set_option linter.unusedSimpArgs false
namespace Go.Proofs.YtejpkjcjoengbaaGreatDoor
open Go.RowKit

def NdBlk (n : Nd) (g : Nat) (wr : World) : Prop :=
  ∃ (kk : Int) (e : Bool) (dA : Option Addr) (dn dc : Nat) (nA : Option Addr) (nn nc : Nat) (sA : Option Addr) (sn sc : Nat),
    wr.heap[g]? = some (.cells #[.int .i64 kk, .bool e, .slice dA dn dc, .slice nA nn nc, .slice sA sn sc] 32 (0, 0)) ∧
    NdIs (fun j => j < wr.heap.size ∧ j ≠ g) wr n [.int .i64 kk, .bool e, .slice dA dn dc, .slice nA nn nc, .slice sA sn sc]

theorem take_slice {F : Nat → Prop} {w : World} {A : Option Addr} {b : List UInt8} {c : Nat} (h : SliceIs F 1 (.slice A b.length c) b.length (byteCells b) w) (hlen : 500 < b.length) :
    SliceIs F 1 (.slice A 500 c) (b.take 500).length (byteCells (b.take 500)) w := by
  obtain ⟨h1, A', c', h2, h3⟩ := h
  injection h2 with e1 e2 e3
  subst e1 e3
  have hl : (b.take 500).length = 500 := by simp; omega
  refine ⟨by omega, A, c, by rw [hl], fun _ => ?_⟩
  obtain ⟨g, o, h4, h5, h6, h7⟩ := h3 (by omega)
  refine ⟨g, o, h4, h5, by simp [byteCells], fun j x hx => h7 j x ?_⟩
  simp only [byteCells, List.map_take, List.getElem?_take] at hx ⊢
  split at hx
  · exact hx
  · exact absurd hx (by simp)

theorem const_at {P : Program} (w : World) (t e : TypeId) (C : Array Value) (n c g : Nat) (hg : g = w.heap.size) (ht : P.underlying t = some (.slice e)) (he : P.underlying e = some (.int .u8)) :
    (convert t t (.slice (some ⟨g, 0, none⟩) n c)).run P (w.alloc (.cells C e)) = .ok (.slice (some ⟨g, 0, none⟩) n c) (w.alloc (.cells C e (C.size, C.size + 1))) := by
  subst hg; exact Lib.run_convert_bytes_const w t e C n c ht he
theorem blk_cells {w : World} {g : Nat} {a b c d e : Value} {t : TypeId} {f : Nat × Nat} (h : w.heap[g]? = some (.cells #[a, b, c, d, e] t f)) :
    w.cell? ⟨g, 0, none⟩ = some a ∧ w.cell? ⟨g, 1, none⟩ = some b ∧ w.cell? ⟨g, 2, none⟩ = some c ∧ w.cell? ⟨g, 3, none⟩ = some d ∧ w.cell? ⟨g, 4, none⟩ = some e := by
  refine ⟨?_, ?_, ?_, ?_, ?_⟩ <;> simp [World.cell?, h]

theorem blk_set {w : World} {g i : Nat} {cs : Array Value} {t : TypeId} {fr : Nat × Nat} (h : w.heap[g]? = some (.cells cs t fr)) (v : Value) : (w.setCell ⟨g, i, none⟩ v).heap[g]? = some (.cells (cs.setIfInBounds i v) t fr) := by
  rw [setCell_eq_setRow w g i cs t fr v h]
  exact setRow_heap w g _ _ t _ h
theorem blk_at {w : World} {g : Nat} {cs : Array Value} {t : TypeId} (h : w.heap[g]? = some (.cells cs t (0, 0))) (i : Nat) {v : Value} (hv : cs[i]? = some v) : w.cell? ⟨g, i, none⟩ = some v ∧ w.frozen? ⟨g, i, none⟩ = false := by
  constructor
  · simp [World.cell?, h, hv]
  · simp [World.frozen?, h]
theorem store5 {w : World} {g : Nat} {a b c d e : Value} {t : TypeId} (h : w.heap[g]? = some (.cells #[a, b, c, d, e] t (0, 0))) (v0 v1 v2 v3 v4 : Value) :
    (w.cell? ⟨g, 0, none⟩ = some a ∧ w.frozen? ⟨g, 0, none⟩ = false) ∧
    ((w.setCell ⟨g, 0, none⟩ v0).cell? ⟨g, 1, none⟩ = some b ∧ (w.setCell ⟨g, 0, none⟩ v0).frozen? ⟨g, 1, none⟩ = false) ∧
    (((w.setCell ⟨g, 0, none⟩ v0).setCell ⟨g, 1, none⟩ v1).cell? ⟨g, 2, none⟩ = some c ∧ ((w.setCell ⟨g, 0, none⟩ v0).setCell ⟨g, 1, none⟩ v1).frozen? ⟨g, 2, none⟩ = false) ∧
    ((((w.setCell ⟨g, 0, none⟩ v0).setCell ⟨g, 1, none⟩ v1).setCell ⟨g, 2, none⟩ v2).cell? ⟨g, 3, none⟩ = some d ∧ (((w.setCell ⟨g, 0, none⟩ v0).setCell ⟨g, 1, none⟩ v1).setCell ⟨g, 2, none⟩ v2).frozen? ⟨g, 3, none⟩ = false) ∧
    (((((w.setCell ⟨g, 0, none⟩ v0).setCell ⟨g, 1, none⟩ v1).setCell ⟨g, 2, none⟩ v2).setCell ⟨g, 3, none⟩ v3).cell? ⟨g, 4, none⟩ = some e ∧ ((((w.setCell ⟨g, 0, none⟩ v0).setCell ⟨g, 1, none⟩ v1).setCell ⟨g, 2, none⟩ v2).setCell ⟨g, 3, none⟩ v3).frozen? ⟨g, 4, none⟩ = false) ∧
    (((((w.setCell ⟨g, 0, none⟩ v0).setCell ⟨g, 1, none⟩ v1).setCell ⟨g, 2, none⟩ v2).setCell ⟨g, 3, none⟩ v3).setCell ⟨g, 4, none⟩ v4).heap[g]? = some (.cells #[v0, v1, v2, v3, v4] t (0, 0)) := by
  have h1 := blk_set (i := 0) h v0
  have h2 := blk_set (i := 1) h1 v1
  have h3 := blk_set (i := 2) h2 v2
  have h4 := blk_set (i := 3) h3 v3
  have h5 := blk_set (i := 4) h4 v4
  exact ⟨blk_at h 0 rfl, blk_at h1 1 rfl, blk_at h2 2 rfl, blk_at h3 3 rfl, blk_at h4 4 rfl, h5⟩

theorem nd_round {wr W : World} {y : List UInt8} {k g : Nat} {kk : Int} {e : Bool} {dA : Option Addr} {dn dc : Nat} {nA : Option Addr} {nn nc : Nat} {sA : Option Addr} {sn sc : Nat} {t0 t1 t2 : TypeId} {f0 f1 f2 : Nat × Nat}
    (hnd : NdIs (fun j => j < wr.heap.size ∧ j ≠ g) wr (ndD y k) [.int .i64 kk, .bool e, .slice dA dn dc, .slice nA nn nc, .slice sA sn sc])
    (hg : g < wr.heap.size) (hsz : W.heap.size = wr.heap.size + 3) (hk : ∀ j, j < wr.heap.size → j ≠ g → W.heap[j]? = wr.heap[j]?)
    (h0 : W.heap[wr.heap.size]? = some (.cells #[.string ⟨#[97]⟩, .string ⟨#[100]⟩] t0 f0))
    (h1 : W.heap[wr.heap.size + 1]? = some (.cells #[.int .u8 120] t1 f1))
    (h2 : W.heap[wr.heap.size + 1 + 1]? = some (.cells #[.int .i64 3, .bool false, .slice (some ⟨wr.heap.size + 1, 0, none⟩) 1 1, .slice none 0 0, .slice none 0 0, .int .i64 kk, .bool e, .slice dA dn dc, .slice nA nn nc, .slice sA sn sc] t2 f2))
    (hend : W.heap[g]? = some (.cells #[.int .i64 2, .bool false, .slice none 0 0, .slice (some ⟨wr.heap.size, 0, none⟩) 2 2, .slice (some ⟨wr.heap.size + 1 + 1, 0, none⟩) 2 2] 32 (0, 0))) :
    NdBlk (ndD y (k + 1)) g W := by
  refine ⟨2, false, none, 0, 0, some ⟨wr.heap.size, 0, none⟩, 2, 2, some ⟨wr.heap.size + 1 + 1, 0, none⟩, 2, 2, hend, ?_⟩
  simp only [ndD, NdIs]
  refine ⟨_, _, _, rfl, SliceIs.nil _ _ _, ⟨by simp [maxLen], _, _, rfl, fun _ => ⟨wr.heap.size, 0, rfl, ⟨by omega, by omega⟩, rfl, fun j x hx => cells_at h0 j x hx⟩⟩,
    [.int .i64 3, .bool false, .slice (some ⟨wr.heap.size + 1, 0, none⟩) 1 1, .slice none 0 0, .slice none 0 0, .int .i64 kk, .bool e, .slice dA dn dc, .slice nA nn nc, .slice sA sn sc],
    ⟨by simp [maxLen], _, _, rfl, fun _ => ⟨wr.heap.size + 1 + 1, 0, rfl, ⟨by omega, by omega⟩, rfl, fun j x hx => cells_at h2 j x hx⟩⟩, ?_⟩
  simp only [NdsIs]
  refine ⟨[.int .i64 3, .bool false, .slice (some ⟨wr.heap.size + 1, 0, none⟩) 1 1, .slice none 0 0, .slice none 0 0], [.int .i64 kk, .bool e, .slice dA dn dc, .slice nA nn nc, .slice sA sn sc], rfl, ?_, _, [], (List.append_nil _).symm, (hnd.kept (fun j hj => hk j hj.1 hj.2)).mono (fun j hj => ⟨by omega, hj.2⟩), rfl⟩
  simp only [NdIs]
  exact ⟨_, _, _, rfl, ⟨by simp [maxLen], _, _, rfl, fun _ => ⟨wr.heap.size + 1, 0, rfl, ⟨by omega, by omega⟩, rfl, fun j x hx => cells_at h1 j x hx⟩⟩, SliceIs.nil _ _ _, [], SliceIs.nil _ _ _, rfl⟩
theorem set5_heap {w : World} {g : Nat} (v0 v1 v2 v3 v4 : Value) (k : Nat) (h : k ≠ g) :
    (((((w.setCell ⟨g, 0, none⟩ v0).setCell ⟨g, 1, none⟩ v1).setCell ⟨g, 2, none⟩ v2).setCell ⟨g, 3, none⟩ v3).setCell ⟨g, 4, none⟩ v4).heap[k]? = w.heap[k]? := by
  rw [Below.heap_setCell _ _ _ _ h, Below.heap_setCell _ _ _ _ h, Below.heap_setCell _ _ _ _ h, Below.heap_setCell _ _ _ _ h, Below.heap_setCell _ _ _ _ h]

set_option maxHeartbeats 2000000 in
set_option maxRecDepth 100000 in
theorem law_reads (A : Option Addr) (c : Nat) (b : List UInt8) (n : Int) {w : World} (hb : SliceIs (fun k => k < w.heap.size) 1 (.slice A b.length c) b.length (byteCells b) w) (hc : b.length ≤ c) (hg : Glob w) :
    Calls Tryz.prog 7 #[.slice A b.length c, .int .i64 n] w fun e w' => e = .returned (.bool true) ∧ Below w.heap.size w w' := by
  obtain ⟨m, hm, hbits⟩ := and15 n
  by_cases hlen : 500 < b.length
  · have q1 : decide ((b.length : Int) > 500) = true := decide_eq_true (by omega)
    go_enter Tryz.func7, Tryz.ntmps7
    go_wp2
    have hy := take_slice hb hlen
    have hyl : (b.take 500).length = 500 := by simp; omega
    have hbq : Below w.heap.size w (w.alloc (.cells #[.int .i64 1, .bool false, .slice A 500 c, .slice none 0 0, .slice none 0 0] 32)) := (Below.refl _ _).alloc (Nat.le_refl _) _
    have hblk : NdBlk (leafNd (b.take 500)) w.heap.size (w.alloc (.cells #[.int .i64 1, .bool false, .slice A 500 c, .slice none 0 0, .slice none 0 0] 32)) := by
      refine ⟨1, false, A, 500, c, none, 0, 0, none, 0, 0, heap_alloc_new w _, ?_⟩
      simp only [leafNd, NdIs]
      refine ⟨_, _, _, rfl, (hy.mono (G := fun j => j < w.heap.size) (fun k hk => hk)).kept (fun k hk => hbq.block k hk) |>.mono (fun k hk => ⟨by simp; omega, by omega⟩), SliceIs.nil _ _ _, [], SliceIs.nil _ _ _, by simp [NdsIs]⟩
    have hy0 : (b.take 500).length ≤ 500 := by omega
    generalize b.take 500 = y at *
    go_loopw [6, 7] (fun s6 s7 wr => ∃ k : Nat, s6 = .string (bs (pathD k)) ∧ s7 = .int .i64 k ∧ k ≤ m ∧ Below w.heap.size w wr ∧ w.heap.size < wr.heap.size ∧ NdBlk (ndD y k) w.heap.size wr) (fun _ s7 wr => m - (intOf s7).toNat)
    case atStart => exact ⟨0, rfl, rfl, by omega, hbq, by simp, hblk⟩
    case round =>
      obtain ⟨k, rfl, rfl, hk, hbr, hsz, hnb⟩ := hrel
      obtain ⟨kk, e, dA, dn, dc, nA, nn, nc, sA, sn, sc, hcell, hnd⟩ := hnb
      clear hblk hbq hb q1 hbits hlen hyl
      by_cases hkm : k < m
      · have q2 : decide ((k : Int) < (m : Int)) = true := decide_eq_true (by omega)
        have hcv := const_at (P := Tryz.prog) (wr.alloc (.cells #[.string ⟨#[97]⟩, .string ⟨#[100]⟩] 9)) 29 5 #[.int .u8 120] 1 1 (wr.heap.size + 1) (by simp) Tryz.underlying29 Tryz.underlying5
        have hcell2 : ((wr.alloc (.cells #[.string ⟨#[97]⟩, .string ⟨#[100]⟩] 9)).alloc (.cells #[.int .u8 120] 5 (1, 2))).heap[w.heap.size]? = _ := alloc_heap (alloc_heap hcell)
        obtain ⟨c0, c1, c2, c3, c4⟩ := blk_cells hcell2
        have hcell3 : (((wr.alloc (.cells #[.string ⟨#[97]⟩, .string ⟨#[100]⟩] 9)).alloc (.cells #[.int .u8 120] 5 (1, 2))).alloc (.cells #[.int .i64 3, .bool false, .slice (some ⟨wr.heap.size + 1, 0, none⟩) 1 1, .slice none 0 0, .slice none 0 0, .int .i64 kk, .bool e, .slice dA dn dc, .slice nA nn nc, .slice sA sn sc] 32)).heap[w.heap.size]? = _ := alloc_heap hcell2
        obtain ⟨⟨a0, f0⟩, ⟨a1, f1⟩, ⟨a2, f2⟩, ⟨a3, f3⟩, ⟨a4, f4⟩, hend⟩ := store5 hcell3 (.int .i64 2) (.bool false) (.slice none 0 0) (.slice (some ⟨wr.heap.size, 0, none⟩) 2 2) (.slice (some ⟨wr.heap.size + 1 + 1, 0, none⟩) 2 2)
        clear hcell3
        have hXs : (bs (pathD k)).size ≤ 1000 := by rw [bs_size]; exact path_len k (by omega)
        have hXa : bs (pathD k) ++ ⟨#[47, 100]⟩ = bs (pathD (k + 1)) := by
          apply ByteArray.ext
          simp [bs, pathD]
        generalize bs (pathD k) = X at *
        generalize hY : bs (pathD (k + 1)) = Y at *
        clear hcell2
        go_wp2
        go_roundw
        case rel =>
          refine ⟨k + 1, by rw [hY], by go_num, by omega, ?_, ?_, ?_⟩
          · exact ((((((((hbr.alloc hbr.size _).alloc (by simp; omega) _).alloc (by simp; omega) _).setCell (by simp) _).setCell (by simp) _).setCell (by simp) _).setCell (by simp) _).setCell (by simp) _)
          · simp; omega
          · refine nd_round (t0 := 9) (f0 := (0, 0)) (t1 := 5) (f1 := (1, 2)) (t2 := 32) (f2 := (0, 0)) hnd hsz (by simp) (fun j hj hjg => ?_) ?_ ?_ ?_ hend
            · rw [set5_heap _ _ _ _ _ j hjg, Below.heap_alloc _ _ _ (by simp; omega), Below.heap_alloc _ _ _ (by simp; omega), Below.heap_alloc _ _ _ hj]
            · rw [set5_heap _ _ _ _ _ _ (by omega)]
              exact alloc_heap (alloc_heap (heap_alloc_new wr _))
            · rw [set5_heap _ _ _ _ _ _ (by omega)]
              exact alloc_heap (heap_alloc2_new wr _ _)
            · rw [set5_heap _ _ _ _ _ _ (by omega)]
              have := heap_alloc_new ((wr.alloc (.cells #[.string ⟨#[97]⟩, .string ⟨#[100]⟩] 9)).alloc (.cells #[.int .u8 120] 5 (1, 2))) (.cells #[.int .i64 3, .bool false, .slice (some ⟨wr.heap.size + 1, 0, none⟩) 1 1, .slice none 0 0, .slice none 0 0, .int .i64 kk, .bool e, .slice dA dn dc, .slice nA nn nc, .slice sA sn sc] 32)
              simpa using this
        case measure => simp [intOf]; omega
      · have hkm2 : k = m := by omega
        have q2 : decide ((k : Int) < (m : Int)) = false := decide_eq_false (by omega)
        subst hkm2
        have hXs : (bs (pathD k)).size ≤ 1000 := by rw [bs_size]; exact path_len k (by omega)
        obtain ⟨c0, c1, c2, c3, c4⟩ := blk_cells (alloc_heap (o' := .cells #[.string (bs (pathD k))] 9) hcell)
        have hbV : Below wr.heap.size wr ((((wr.alloc (.cells #[.string (bs (pathD k))] 9)).alloc (.cells #[.string ⟨#[47, 105, 110]⟩, .int .i64 kk, .bool e, .slice dA dn dc, .slice nA nn nc, .slice sA sn sc] 43)).alloc (.cells #[.slice none 0 0, .slice (some ⟨wr.heap.size, 0, none⟩) 1 1, .slice (some ⟨wr.heap.size + 1, 0, none⟩) 1 1] 26)).alloc (.cells #[.int .i64 50, .int .i64 2000] 28)) := ((((Below.refl _ _).alloc (Nat.le_refl _) _).alloc (by simp) _).alloc (by simp; omega) _).alloc (by simp; omega) _
        have hb0 : Below w.heap.size w ((((wr.alloc (.cells #[.string (bs (pathD k))] 9)).alloc (.cells #[.string ⟨#[47, 105, 110]⟩, .int .i64 kk, .bool e, .slice dA dn dc, .slice nA nn nc, .slice sA sn sc] 43)).alloc (.cells #[.slice none 0 0, .slice (some ⟨wr.heap.size, 0, none⟩) 1 1, .slice (some ⟨wr.heap.size + 1, 0, none⟩) 1 1] 26)).alloc (.cells #[.int .i64 50, .int .i64 2000] 28)) := (((hbr.alloc hbr.size _).alloc (by simp; omega) _).alloc (by simp; omega) _).alloc (by simp; omega) _
        have hg0 : Glob ((((wr.alloc (.cells #[.string (bs (pathD k))] 9)).alloc (.cells #[.string ⟨#[47, 105, 110]⟩, .int .i64 kk, .bool e, .slice dA dn dc, .slice nA nn nc, .slice sA sn sc] 43)).alloc (.cells #[.slice none 0 0, .slice (some ⟨wr.heap.size, 0, none⟩) 1 1, .slice (some ⟨wr.heap.size + 1, 0, none⟩) 1 1] 26)).alloc (.cells #[.int .i64 50, .int .i64 2000] 28)) := hg.grown hb0
        have e0 : ((((wr.alloc (.cells #[.string (bs (pathD k))] 9)).alloc (.cells #[.string ⟨#[47, 105, 110]⟩, .int .i64 kk, .bool e, .slice dA dn dc, .slice nA nn nc, .slice sA sn sc] 43)).alloc (.cells #[.slice none 0 0, .slice (some ⟨wr.heap.size, 0, none⟩) 1 1, .slice (some ⟨wr.heap.size + 1, 0, none⟩) 1 1] 26)).alloc (.cells #[.int .i64 50, .int .i64 2000] 28)).heap[wr.heap.size]? = some (.cells #[.string (bs (pathD k))] 9 (0, 0)) := alloc_heap (alloc_heap (alloc_heap (heap_alloc_new wr _)))
        have e1 : ((((wr.alloc (.cells #[.string (bs (pathD k))] 9)).alloc (.cells #[.string ⟨#[47, 105, 110]⟩, .int .i64 kk, .bool e, .slice dA dn dc, .slice nA nn nc, .slice sA sn sc] 43)).alloc (.cells #[.slice none 0 0, .slice (some ⟨wr.heap.size, 0, none⟩) 1 1, .slice (some ⟨wr.heap.size + 1, 0, none⟩) 1 1] 26)).alloc (.cells #[.int .i64 50, .int .i64 2000] 28)).heap[wr.heap.size + 1]? = some (.cells #[.string ⟨#[47, 105, 110]⟩, .int .i64 kk, .bool e, .slice dA dn dc, .slice nA nn nc, .slice sA sn sc] 43 (0, 0)) := alloc_heap (alloc_heap (heap_alloc2_new wr _ _))
        have e2 : ((((wr.alloc (.cells #[.string (bs (pathD k))] 9)).alloc (.cells #[.string ⟨#[47, 105, 110]⟩, .int .i64 kk, .bool e, .slice dA dn dc, .slice nA nn nc, .slice sA sn sc] 43)).alloc (.cells #[.slice none 0 0, .slice (some ⟨wr.heap.size, 0, none⟩) 1 1, .slice (some ⟨wr.heap.size + 1, 0, none⟩) 1 1] 26)).alloc (.cells #[.int .i64 50, .int .i64 2000] 28)).heap[wr.heap.size + 1 + 1]? = some (.cells #[.slice none 0 0, .slice (some ⟨wr.heap.size, 0, none⟩) 1 1, .slice (some ⟨wr.heap.size + 1, 0, none⟩) 1 1] 26 (0, 0)) := by
          refine alloc_heap ?_
          simpa using heap_alloc2_new (wr.alloc (.cells #[.string (bs (pathD k))] 9)) (.cells #[.string ⟨#[47, 105, 110]⟩, .int .i64 kk, .bool e, .slice dA dn dc, .slice nA nn nc, .slice sA sn sc] 43) (.cells #[.slice none 0 0, .slice (some ⟨wr.heap.size, 0, none⟩) 1 1, .slice (some ⟨wr.heap.size + 1, 0, none⟩) 1 1] 26)
        have e3 : ((((wr.alloc (.cells #[.string (bs (pathD k))] 9)).alloc (.cells #[.string ⟨#[47, 105, 110]⟩, .int .i64 kk, .bool e, .slice dA dn dc, .slice nA nn nc, .slice sA sn sc] 43)).alloc (.cells #[.slice none 0 0, .slice (some ⟨wr.heap.size, 0, none⟩) 1 1, .slice (some ⟨wr.heap.size + 1, 0, none⟩) 1 1] 26)).alloc (.cells #[.int .i64 50, .int .i64 2000] 28)).heap[wr.heap.size + 1 + 1 + 1]? = some (.cells #[.int .i64 50, .int .i64 2000] 28 (0, 0)) := by
          simpa using heap_alloc2_new ((wr.alloc (.cells #[.string (bs (pathD k))] 9)).alloc (.cells #[.string ⟨#[47, 105, 110]⟩, .int .i64 kk, .bool e, .slice dA dn dc, .slice nA nn nc, .slice sA sn sc] 43)) (.cells #[.slice none 0 0, .slice (some ⟨wr.heap.size, 0, none⟩) 1 1, .slice (some ⟨wr.heap.size + 1, 0, none⟩) 1 1] 26) (.cells #[.int .i64 50, .int .i64 2000] 28)
        have hWd0 := wdis_V hnd (by simp) (fun j hj => hbV.block j hj) e0 e1
        have hRun1 := callR1 hy0 (by omega) hg0 hWd0
        have hpb1 : bs progR1 = ⟨progR1.toArray⟩ := rfl
        rw [hpb1] at hRun1
        unfold progR1 at hRun1
        generalize bs (pathD k) = X at *
        go_wp2_with (go_at_call 8; refine hRun1.mono ?_)
        intro x1 w1 hp1
        obtain ⟨dA1, dc1, nA1, nc1, sA1, sc1, rfl, hS1, hb1⟩ := hp1.mk
        simp only [leafNd, Nd.kind, Nd.exec, Nd.data, Nd.names, Nd.nodes, List.length_nil] at hS1 ⊢
        obtain ⟨hg1, hWd1, hbb1⟩ := step_facts hb1 (.cells #[.int .i64 1, .bool false, .slice dA1 y.length dc1, .slice nA1 0 nc1, .slice sA1 0 sc1] 32) hg0 hWd0
        have e21 := below_blk hbb1 e2
        have e31 := below_blk hbb1 e3
        have hb01 := hb0.trans (hbb1.mono hb0.size)
        clear hRun1 hp1 e0 e1 e2 e3 hWd0 hb0 hbV hg0
        obtain ⟨u10, u11, u12⟩ := blk3 e21
        obtain ⟨v10, v11⟩ := blk2 e31
        have hRun2 := callR2 (by omega) hg1 hWd1
        have hpb2 : bs progR2 = ⟨progR2.toArray⟩ := rfl
        rw [hpb2] at hRun2
        unfold progR2 at hRun2
        go_wp2_with (go_at_call 8; refine hRun2.mono ?_)
        intro x2 w2 hp2
        obtain ⟨dA2, dc2, nA2, nc2, sA2, sc2, rfl, hS2, hb2⟩ := hp2.mk
        simp only [zeroNd, Nd.kind, Nd.exec, Nd.data, Nd.names, Nd.nodes, List.length_nil] at hS2 ⊢
        obtain ⟨hg2, hWd2, hbb2⟩ := step_facts hb2 (.cells #[.int .i64 0, .bool false, .slice dA2 0 dc2, .slice nA2 0 nc2, .slice sA2 0 sc2] 32) hg1 hWd1
        have e22 := below_blk hbb2 e21
        have e32 := below_blk hbb2 e31
        have hb02 := hb01.trans (hbb2.mono hb01.size)
        clear hRun2 hp2 u10 u11 u12 v10 v11 hpb2 e21 e31 hWd1
        rcases Nat.eq_zero_or_pos k with hk0 | hk0
        · subst hk0
          have q3 : (((0 : Nat) : Int) == 0) = true := rfl
          obtain ⟨u20, u21, u22⟩ := blk3 e22
          obtain ⟨v20, v21⟩ := blk2 e32
          have hRun3 := callR3z hg2 hWd2
          have hpb3 : bs progR3 = ⟨progR3.toArray⟩ := rfl
          rw [hpb3] at hRun3
          unfold progR3 at hRun3
          go_wp2_with (go_at_call 8; refine hRun3.mono ?_)
          intro x3 w3 hp3
          obtain ⟨dA3, dc3, nA3, nc3, sA3, sc3, rfl, hS3, hb3⟩ := hp3.mk
          simp only [zeroNd, Nd.kind, Nd.exec, Nd.data, Nd.names, Nd.nodes, List.length_nil] at hS3 ⊢
          obtain ⟨hg3, hWd3, hbb3⟩ := step_facts hb3 (.cells #[.int .i64 0, .bool false, .slice dA3 0 dc3, .slice nA3 0 nc3, .slice sA3 0 sc3] 32) hg2 hWd2
          have e23 := below_blk hbb3 e22
          have e33 := below_blk hbb3 e32
          have hb03 := hb02.trans (hbb3.mono hb02.size)
          clear hRun3 hp3 u20 u21 u22 v20 v21 hpb3 e22 e32 hWd2
          obtain ⟨u30, u31, u32⟩ := blk3 e23
          obtain ⟨v30, v31⟩ := blk2 e33
          have hRun4 := callR4 hg3 hWd3
          have hpb4 : bs progR4 = ⟨progR4.toArray⟩ := rfl
          rw [hpb4] at hRun4
          unfold progR4 at hRun4
          go_wp2_with (go_at_call 8; refine hRun4.mono ?_)
          intro x4 w4 hp4
          obtain ⟨dA4, dc4, nA4, nc4, sA4, sc4, rfl, hS4, hb4⟩ := hp4.mk
          simp only [zeroNd, Nd.kind, Nd.exec, Nd.data, Nd.names, Nd.nodes, List.length_nil] at hS4 ⊢
          obtain ⟨hg4, hWd4, hbb4⟩ := step_facts hb4 (.cells #[.int .i64 0, .bool false, .slice dA4 0 dc4, .slice nA4 0 nc4, .slice sA4 0 sc4] 32) hg3 hWd3
          have e24 := below_blk hbb4 e23
          have e34 := below_blk hbb4 e33
          have hb04 := hb03.trans (hbb4.mono hb03.size)
          clear hRun4 hp4 u30 u31 u32 v30 v31 hpb4 e23 e33 hWd3
          have n1 := heap_alloc_new w1 (.cells #[.int .i64 1, .bool false, .slice dA1 y.length dc1, .slice nA1 0 nc1, .slice sA1 0 sc1] 32)
          have n14 := below_blk hbb4 (below_blk hbb3 (below_blk hbb2 n1))
          obtain ⟨_, _, m12, _, _⟩ := blk_cells n14
          have hcv1 := conv_bytes (hS1.kept (fun k hk => ((Below.heap_alloc _ _ _ hk).symm.trans (((hbb4.block k (by have := hbb2.size; have := hbb3.size; simp at *; omega)).trans ((hbb3.block k (by have := hbb2.size; simp at *; omega)).trans (hbb2.block k (by simp; omega)))).symm)).symm))
          have hcv0 := conv_bytes (hy.kept (fun k hk => hb04.block k hk))
          clear n1 n14 e24 e34 hWd4 hg4 hg1 hg2 hg3 hS1 hS2 hS3 hS4 hy hnd hcell hbr hg
          go_wp2
          go_ret
          exact ⟨rfl, hb04⟩
        · have q3 : ((k : Int) == 0) = false := beq_eq_false_iff_ne.2 (by omega)
          have q4 : decide ((k : Int) > 0) = true := decide_eq_true (by omega)
          obtain ⟨u20, u21, u22⟩ := blk3 e22
          obtain ⟨v20, v21⟩ := blk2 e32
          have hRun3 := callR3n hk0 hg2 hWd2
          have hpb3 : bs progR3 = ⟨progR3.toArray⟩ := rfl
          rw [hpb3] at hRun3
          unfold progR3 at hRun3
          go_wp2_with (go_at_call 8; refine hRun3.mono ?_)
          intro x3 w3 hp3
          obtain ⟨dA3, dc3, nA3, nc3, sA3, sc3, rfl, hS3, hb3⟩ := hp3.mk
          simp only [leafNd, Nd.kind, Nd.exec, Nd.data, Nd.names, Nd.nodes, List.length_nil] at hS3 ⊢
          obtain ⟨hg3, hWd3, hbb3⟩ := step_facts hb3 (.cells #[.int .i64 1, .bool false, .slice dA3 adNl.length dc3, .slice nA3 0 nc3, .slice sA3 0 sc3] 32) hg2 hWd2
          have e23 := below_blk hbb3 e22
          have e33 := below_blk hbb3 e32
          have hb03 := hb02.trans (hbb3.mono hb02.size)
          clear hRun3 hp3 u20 u21 u22 v20 v21 hpb3 e22 e32 hWd2
          obtain ⟨u30, u31, u32⟩ := blk3 e23
          obtain ⟨v30, v31⟩ := blk2 e33
          have hRun4 := callR4 hg3 hWd3
          have hpb4 : bs progR4 = ⟨progR4.toArray⟩ := rfl
          rw [hpb4] at hRun4
          unfold progR4 at hRun4
          go_wp2_with (go_at_call 8; refine hRun4.mono ?_)
          intro x4 w4 hp4
          obtain ⟨dA4, dc4, nA4, nc4, sA4, sc4, rfl, hS4, hb4⟩ := hp4.mk
          simp only [zeroNd, Nd.kind, Nd.exec, Nd.data, Nd.names, Nd.nodes, List.length_nil] at hS4 ⊢
          obtain ⟨hg4, hWd4, hbb4⟩ := step_facts hb4 (.cells #[.int .i64 0, .bool false, .slice dA4 0 dc4, .slice nA4 0 nc4, .slice sA4 0 sc4] 32) hg3 hWd3
          have e24 := below_blk hbb4 e23
          have e34 := below_blk hbb4 e33
          have hb04 := hb03.trans (hbb4.mono hb03.size)
          clear hRun4 hp4 u30 u31 u32 v30 v31 hpb4 e23 e33 hWd3
          have n1 := heap_alloc_new w1 (.cells #[.int .i64 1, .bool false, .slice dA1 y.length dc1, .slice nA1 0 nc1, .slice sA1 0 sc1] 32)
          have n14 := below_blk hbb4 (below_blk hbb3 (below_blk hbb2 n1))
          obtain ⟨_, _, m12, _, _⟩ := blk_cells n14
          have hcv1 := conv_bytes (hS1.kept (fun k hk => ((Below.heap_alloc _ _ _ hk).symm.trans (((hbb4.block k (by have := hbb2.size; have := hbb3.size; simp at *; omega)).trans ((hbb3.block k (by have := hbb2.size; simp at *; omega)).trans (hbb2.block k (by simp; omega)))).symm)).symm))
          have hcv0 := conv_bytes (hy.kept (fun k hk => hb04.block k hk))
          have n3 := heap_alloc_new w3 (.cells #[.int .i64 1, .bool false, .slice dA3 adNl.length dc3, .slice nA3 0 nc3, .slice sA3 0 sc3] 32)
          have n34 := below_blk hbb4 n3
          obtain ⟨_, _, m32, _, _⟩ := blk_cells n34
          have hcv3 := conv_bytes (hS3.kept (fun k hk => ((Below.heap_alloc _ _ _ hk).symm.trans (hbb4.block k (by simp; omega)).symm).symm))
          have hadl : bs adNl = ⟨#[97, 10, 100, 10]⟩ := rfl
          rw [hadl] at hcv3
          clear n1 n14 e24 e34 hWd4 hg4 hg1 hg2 hg3 hS1 hS2 hS3 hS4 hy hnd hcell hbr hg
          go_wp2
          go_ret
          exact ⟨rfl, hb04⟩
  · have q1 : decide ((b.length : Int) > 500) = false := decide_eq_false (by omega)
    go_enter Tryz.func7, Tryz.ntmps7
    go_wp2
    have hy := hb
    have hbq : Below w.heap.size w (w.alloc (.cells #[.int .i64 1, .bool false, .slice A b.length c, .slice none 0 0, .slice none 0 0] 32)) := (Below.refl _ _).alloc (Nat.le_refl _) _
    have hblk : NdBlk (leafNd b) w.heap.size (w.alloc (.cells #[.int .i64 1, .bool false, .slice A b.length c, .slice none 0 0, .slice none 0 0] 32)) := by
      refine ⟨1, false, A, b.length, c, none, 0, 0, none, 0, 0, heap_alloc_new w _, ?_⟩
      simp only [leafNd, NdIs]
      refine ⟨_, _, _, rfl, (hy.mono (G := fun j => j < w.heap.size) (fun k hk => hk)).kept (fun k hk => hbq.block k hk) |>.mono (fun k hk => ⟨by simp; omega, by omega⟩), SliceIs.nil _ _ _, [], SliceIs.nil _ _ _, by simp [NdsIs]⟩
    have hy0 : b.length ≤ 500 := by omega
    generalize b = y at *
    go_loopw [6, 7] (fun s6 s7 wr => ∃ k : Nat, s6 = .string (bs (pathD k)) ∧ s7 = .int .i64 k ∧ k ≤ m ∧ Below w.heap.size w wr ∧ w.heap.size < wr.heap.size ∧ NdBlk (ndD y k) w.heap.size wr) (fun _ s7 wr => m - (intOf s7).toNat)
    case atStart => exact ⟨0, rfl, rfl, by omega, hbq, by simp, hblk⟩
    case round =>
      obtain ⟨k, rfl, rfl, hk, hbr, hsz, hnb⟩ := hrel
      obtain ⟨kk, e, dA, dn, dc, nA, nn, nc, sA, sn, sc, hcell, hnd⟩ := hnb
      clear hblk hbq hb q1 hbits hlen
      by_cases hkm : k < m
      · have q2 : decide ((k : Int) < (m : Int)) = true := decide_eq_true (by omega)
        have hcv := const_at (P := Tryz.prog) (wr.alloc (.cells #[.string ⟨#[97]⟩, .string ⟨#[100]⟩] 9)) 29 5 #[.int .u8 120] 1 1 (wr.heap.size + 1) (by simp) Tryz.underlying29 Tryz.underlying5
        have hcell2 : ((wr.alloc (.cells #[.string ⟨#[97]⟩, .string ⟨#[100]⟩] 9)).alloc (.cells #[.int .u8 120] 5 (1, 2))).heap[w.heap.size]? = _ := alloc_heap (alloc_heap hcell)
        obtain ⟨c0, c1, c2, c3, c4⟩ := blk_cells hcell2
        have hcell3 : (((wr.alloc (.cells #[.string ⟨#[97]⟩, .string ⟨#[100]⟩] 9)).alloc (.cells #[.int .u8 120] 5 (1, 2))).alloc (.cells #[.int .i64 3, .bool false, .slice (some ⟨wr.heap.size + 1, 0, none⟩) 1 1, .slice none 0 0, .slice none 0 0, .int .i64 kk, .bool e, .slice dA dn dc, .slice nA nn nc, .slice sA sn sc] 32)).heap[w.heap.size]? = _ := alloc_heap hcell2
        obtain ⟨⟨a0, f0⟩, ⟨a1, f1⟩, ⟨a2, f2⟩, ⟨a3, f3⟩, ⟨a4, f4⟩, hend⟩ := store5 hcell3 (.int .i64 2) (.bool false) (.slice none 0 0) (.slice (some ⟨wr.heap.size, 0, none⟩) 2 2) (.slice (some ⟨wr.heap.size + 1 + 1, 0, none⟩) 2 2)
        clear hcell3
        have hXs : (bs (pathD k)).size ≤ 1000 := by rw [bs_size]; exact path_len k (by omega)
        have hXa : bs (pathD k) ++ ⟨#[47, 100]⟩ = bs (pathD (k + 1)) := by
          apply ByteArray.ext
          simp [bs, pathD]
        generalize bs (pathD k) = X at *
        generalize hY : bs (pathD (k + 1)) = Y at *
        clear hcell2
        go_wp2
        go_roundw
        case rel =>
          refine ⟨k + 1, by rw [hY], by go_num, by omega, ?_, ?_, ?_⟩
          · exact ((((((((hbr.alloc hbr.size _).alloc (by simp; omega) _).alloc (by simp; omega) _).setCell (by simp) _).setCell (by simp) _).setCell (by simp) _).setCell (by simp) _).setCell (by simp) _)
          · simp; omega
          · refine nd_round (t0 := 9) (f0 := (0, 0)) (t1 := 5) (f1 := (1, 2)) (t2 := 32) (f2 := (0, 0)) hnd hsz (by simp) (fun j hj hjg => ?_) ?_ ?_ ?_ hend
            · rw [set5_heap _ _ _ _ _ j hjg, Below.heap_alloc _ _ _ (by simp; omega), Below.heap_alloc _ _ _ (by simp; omega), Below.heap_alloc _ _ _ hj]
            · rw [set5_heap _ _ _ _ _ _ (by omega)]
              exact alloc_heap (alloc_heap (heap_alloc_new wr _))
            · rw [set5_heap _ _ _ _ _ _ (by omega)]
              exact alloc_heap (heap_alloc2_new wr _ _)
            · rw [set5_heap _ _ _ _ _ _ (by omega)]
              have := heap_alloc_new ((wr.alloc (.cells #[.string ⟨#[97]⟩, .string ⟨#[100]⟩] 9)).alloc (.cells #[.int .u8 120] 5 (1, 2))) (.cells #[.int .i64 3, .bool false, .slice (some ⟨wr.heap.size + 1, 0, none⟩) 1 1, .slice none 0 0, .slice none 0 0, .int .i64 kk, .bool e, .slice dA dn dc, .slice nA nn nc, .slice sA sn sc] 32)
              simpa using this
        case measure => simp [intOf]; omega
      · have hkm2 : k = m := by omega
        have q2 : decide ((k : Int) < (m : Int)) = false := decide_eq_false (by omega)
        subst hkm2
        have hXs : (bs (pathD k)).size ≤ 1000 := by rw [bs_size]; exact path_len k (by omega)
        obtain ⟨c0, c1, c2, c3, c4⟩ := blk_cells (alloc_heap (o' := .cells #[.string (bs (pathD k))] 9) hcell)
        have hbV : Below wr.heap.size wr ((((wr.alloc (.cells #[.string (bs (pathD k))] 9)).alloc (.cells #[.string ⟨#[47, 105, 110]⟩, .int .i64 kk, .bool e, .slice dA dn dc, .slice nA nn nc, .slice sA sn sc] 43)).alloc (.cells #[.slice none 0 0, .slice (some ⟨wr.heap.size, 0, none⟩) 1 1, .slice (some ⟨wr.heap.size + 1, 0, none⟩) 1 1] 26)).alloc (.cells #[.int .i64 50, .int .i64 2000] 28)) := ((((Below.refl _ _).alloc (Nat.le_refl _) _).alloc (by simp) _).alloc (by simp; omega) _).alloc (by simp; omega) _
        have hb0 : Below w.heap.size w ((((wr.alloc (.cells #[.string (bs (pathD k))] 9)).alloc (.cells #[.string ⟨#[47, 105, 110]⟩, .int .i64 kk, .bool e, .slice dA dn dc, .slice nA nn nc, .slice sA sn sc] 43)).alloc (.cells #[.slice none 0 0, .slice (some ⟨wr.heap.size, 0, none⟩) 1 1, .slice (some ⟨wr.heap.size + 1, 0, none⟩) 1 1] 26)).alloc (.cells #[.int .i64 50, .int .i64 2000] 28)) := (((hbr.alloc hbr.size _).alloc (by simp; omega) _).alloc (by simp; omega) _).alloc (by simp; omega) _
        have hg0 : Glob ((((wr.alloc (.cells #[.string (bs (pathD k))] 9)).alloc (.cells #[.string ⟨#[47, 105, 110]⟩, .int .i64 kk, .bool e, .slice dA dn dc, .slice nA nn nc, .slice sA sn sc] 43)).alloc (.cells #[.slice none 0 0, .slice (some ⟨wr.heap.size, 0, none⟩) 1 1, .slice (some ⟨wr.heap.size + 1, 0, none⟩) 1 1] 26)).alloc (.cells #[.int .i64 50, .int .i64 2000] 28)) := hg.grown hb0
        have e0 : ((((wr.alloc (.cells #[.string (bs (pathD k))] 9)).alloc (.cells #[.string ⟨#[47, 105, 110]⟩, .int .i64 kk, .bool e, .slice dA dn dc, .slice nA nn nc, .slice sA sn sc] 43)).alloc (.cells #[.slice none 0 0, .slice (some ⟨wr.heap.size, 0, none⟩) 1 1, .slice (some ⟨wr.heap.size + 1, 0, none⟩) 1 1] 26)).alloc (.cells #[.int .i64 50, .int .i64 2000] 28)).heap[wr.heap.size]? = some (.cells #[.string (bs (pathD k))] 9 (0, 0)) := alloc_heap (alloc_heap (alloc_heap (heap_alloc_new wr _)))
        have e1 : ((((wr.alloc (.cells #[.string (bs (pathD k))] 9)).alloc (.cells #[.string ⟨#[47, 105, 110]⟩, .int .i64 kk, .bool e, .slice dA dn dc, .slice nA nn nc, .slice sA sn sc] 43)).alloc (.cells #[.slice none 0 0, .slice (some ⟨wr.heap.size, 0, none⟩) 1 1, .slice (some ⟨wr.heap.size + 1, 0, none⟩) 1 1] 26)).alloc (.cells #[.int .i64 50, .int .i64 2000] 28)).heap[wr.heap.size + 1]? = some (.cells #[.string ⟨#[47, 105, 110]⟩, .int .i64 kk, .bool e, .slice dA dn dc, .slice nA nn nc, .slice sA sn sc] 43 (0, 0)) := alloc_heap (alloc_heap (heap_alloc2_new wr _ _))
        have e2 : ((((wr.alloc (.cells #[.string (bs (pathD k))] 9)).alloc (.cells #[.string ⟨#[47, 105, 110]⟩, .int .i64 kk, .bool e, .slice dA dn dc, .slice nA nn nc, .slice sA sn sc] 43)).alloc (.cells #[.slice none 0 0, .slice (some ⟨wr.heap.size, 0, none⟩) 1 1, .slice (some ⟨wr.heap.size + 1, 0, none⟩) 1 1] 26)).alloc (.cells #[.int .i64 50, .int .i64 2000] 28)).heap[wr.heap.size + 1 + 1]? = some (.cells #[.slice none 0 0, .slice (some ⟨wr.heap.size, 0, none⟩) 1 1, .slice (some ⟨wr.heap.size + 1, 0, none⟩) 1 1] 26 (0, 0)) := by
          refine alloc_heap ?_
          simpa using heap_alloc2_new (wr.alloc (.cells #[.string (bs (pathD k))] 9)) (.cells #[.string ⟨#[47, 105, 110]⟩, .int .i64 kk, .bool e, .slice dA dn dc, .slice nA nn nc, .slice sA sn sc] 43) (.cells #[.slice none 0 0, .slice (some ⟨wr.heap.size, 0, none⟩) 1 1, .slice (some ⟨wr.heap.size + 1, 0, none⟩) 1 1] 26)
        have e3 : ((((wr.alloc (.cells #[.string (bs (pathD k))] 9)).alloc (.cells #[.string ⟨#[47, 105, 110]⟩, .int .i64 kk, .bool e, .slice dA dn dc, .slice nA nn nc, .slice sA sn sc] 43)).alloc (.cells #[.slice none 0 0, .slice (some ⟨wr.heap.size, 0, none⟩) 1 1, .slice (some ⟨wr.heap.size + 1, 0, none⟩) 1 1] 26)).alloc (.cells #[.int .i64 50, .int .i64 2000] 28)).heap[wr.heap.size + 1 + 1 + 1]? = some (.cells #[.int .i64 50, .int .i64 2000] 28 (0, 0)) := by
          simpa using heap_alloc2_new ((wr.alloc (.cells #[.string (bs (pathD k))] 9)).alloc (.cells #[.string ⟨#[47, 105, 110]⟩, .int .i64 kk, .bool e, .slice dA dn dc, .slice nA nn nc, .slice sA sn sc] 43)) (.cells #[.slice none 0 0, .slice (some ⟨wr.heap.size, 0, none⟩) 1 1, .slice (some ⟨wr.heap.size + 1, 0, none⟩) 1 1] 26) (.cells #[.int .i64 50, .int .i64 2000] 28)
        have hWd0 := wdis_V hnd (by simp) (fun j hj => hbV.block j hj) e0 e1
        have hRun1 := callR1 hy0 (by omega) hg0 hWd0
        have hpb1 : bs progR1 = ⟨progR1.toArray⟩ := rfl
        rw [hpb1] at hRun1
        unfold progR1 at hRun1
        generalize bs (pathD k) = X at *
        go_wp2_with (go_at_call 8; refine hRun1.mono ?_)
        intro x1 w1 hp1
        obtain ⟨dA1, dc1, nA1, nc1, sA1, sc1, rfl, hS1, hb1⟩ := hp1.mk
        simp only [leafNd, Nd.kind, Nd.exec, Nd.data, Nd.names, Nd.nodes, List.length_nil] at hS1 ⊢
        obtain ⟨hg1, hWd1, hbb1⟩ := step_facts hb1 (.cells #[.int .i64 1, .bool false, .slice dA1 y.length dc1, .slice nA1 0 nc1, .slice sA1 0 sc1] 32) hg0 hWd0
        have e21 := below_blk hbb1 e2
        have e31 := below_blk hbb1 e3
        have hb01 := hb0.trans (hbb1.mono hb0.size)
        clear hRun1 hp1 e0 e1 e2 e3 hWd0 hb0 hbV hg0
        obtain ⟨u10, u11, u12⟩ := blk3 e21
        obtain ⟨v10, v11⟩ := blk2 e31
        have hRun2 := callR2 (by omega) hg1 hWd1
        have hpb2 : bs progR2 = ⟨progR2.toArray⟩ := rfl
        rw [hpb2] at hRun2
        unfold progR2 at hRun2
        go_wp2_with (go_at_call 8; refine hRun2.mono ?_)
        intro x2 w2 hp2
        obtain ⟨dA2, dc2, nA2, nc2, sA2, sc2, rfl, hS2, hb2⟩ := hp2.mk
        simp only [zeroNd, Nd.kind, Nd.exec, Nd.data, Nd.names, Nd.nodes, List.length_nil] at hS2 ⊢
        obtain ⟨hg2, hWd2, hbb2⟩ := step_facts hb2 (.cells #[.int .i64 0, .bool false, .slice dA2 0 dc2, .slice nA2 0 nc2, .slice sA2 0 sc2] 32) hg1 hWd1
        have e22 := below_blk hbb2 e21
        have e32 := below_blk hbb2 e31
        have hb02 := hb01.trans (hbb2.mono hb01.size)
        clear hRun2 hp2 u10 u11 u12 v10 v11 hpb2 e21 e31 hWd1
        rcases Nat.eq_zero_or_pos k with hk0 | hk0
        · subst hk0
          have q3 : (((0 : Nat) : Int) == 0) = true := rfl
          obtain ⟨u20, u21, u22⟩ := blk3 e22
          obtain ⟨v20, v21⟩ := blk2 e32
          have hRun3 := callR3z hg2 hWd2
          have hpb3 : bs progR3 = ⟨progR3.toArray⟩ := rfl
          rw [hpb3] at hRun3
          unfold progR3 at hRun3
          go_wp2_with (go_at_call 8; refine hRun3.mono ?_)
          intro x3 w3 hp3
          obtain ⟨dA3, dc3, nA3, nc3, sA3, sc3, rfl, hS3, hb3⟩ := hp3.mk
          simp only [zeroNd, Nd.kind, Nd.exec, Nd.data, Nd.names, Nd.nodes, List.length_nil] at hS3 ⊢
          obtain ⟨hg3, hWd3, hbb3⟩ := step_facts hb3 (.cells #[.int .i64 0, .bool false, .slice dA3 0 dc3, .slice nA3 0 nc3, .slice sA3 0 sc3] 32) hg2 hWd2
          have e23 := below_blk hbb3 e22
          have e33 := below_blk hbb3 e32
          have hb03 := hb02.trans (hbb3.mono hb02.size)
          clear hRun3 hp3 u20 u21 u22 v20 v21 hpb3 e22 e32 hWd2
          obtain ⟨u30, u31, u32⟩ := blk3 e23
          obtain ⟨v30, v31⟩ := blk2 e33
          have hRun4 := callR4 hg3 hWd3
          have hpb4 : bs progR4 = ⟨progR4.toArray⟩ := rfl
          rw [hpb4] at hRun4
          unfold progR4 at hRun4
          go_wp2_with (go_at_call 8; refine hRun4.mono ?_)
          intro x4 w4 hp4
          obtain ⟨dA4, dc4, nA4, nc4, sA4, sc4, rfl, hS4, hb4⟩ := hp4.mk
          simp only [zeroNd, Nd.kind, Nd.exec, Nd.data, Nd.names, Nd.nodes, List.length_nil] at hS4 ⊢
          obtain ⟨hg4, hWd4, hbb4⟩ := step_facts hb4 (.cells #[.int .i64 0, .bool false, .slice dA4 0 dc4, .slice nA4 0 nc4, .slice sA4 0 sc4] 32) hg3 hWd3
          have e24 := below_blk hbb4 e23
          have e34 := below_blk hbb4 e33
          have hb04 := hb03.trans (hbb4.mono hb03.size)
          clear hRun4 hp4 u30 u31 u32 v30 v31 hpb4 e23 e33 hWd3
          have n1 := heap_alloc_new w1 (.cells #[.int .i64 1, .bool false, .slice dA1 y.length dc1, .slice nA1 0 nc1, .slice sA1 0 sc1] 32)
          have n14 := below_blk hbb4 (below_blk hbb3 (below_blk hbb2 n1))
          obtain ⟨_, _, m12, _, _⟩ := blk_cells n14
          have hcv1 := conv_bytes (hS1.kept (fun k hk => ((Below.heap_alloc _ _ _ hk).symm.trans (((hbb4.block k (by have := hbb2.size; have := hbb3.size; simp at *; omega)).trans ((hbb3.block k (by have := hbb2.size; simp at *; omega)).trans (hbb2.block k (by simp; omega)))).symm)).symm))
          have hcv0 := conv_bytes (hy.kept (fun k hk => hb04.block k hk))
          clear n1 n14 e24 e34 hWd4 hg4 hg1 hg2 hg3 hS1 hS2 hS3 hS4 hy hnd hcell hbr hg
          go_wp2
          go_ret
          exact ⟨rfl, hb04⟩
        · have q3 : ((k : Int) == 0) = false := beq_eq_false_iff_ne.2 (by omega)
          have q4 : decide ((k : Int) > 0) = true := decide_eq_true (by omega)
          obtain ⟨u20, u21, u22⟩ := blk3 e22
          obtain ⟨v20, v21⟩ := blk2 e32
          have hRun3 := callR3n hk0 hg2 hWd2
          have hpb3 : bs progR3 = ⟨progR3.toArray⟩ := rfl
          rw [hpb3] at hRun3
          unfold progR3 at hRun3
          go_wp2_with (go_at_call 8; refine hRun3.mono ?_)
          intro x3 w3 hp3
          obtain ⟨dA3, dc3, nA3, nc3, sA3, sc3, rfl, hS3, hb3⟩ := hp3.mk
          simp only [leafNd, Nd.kind, Nd.exec, Nd.data, Nd.names, Nd.nodes, List.length_nil] at hS3 ⊢
          obtain ⟨hg3, hWd3, hbb3⟩ := step_facts hb3 (.cells #[.int .i64 1, .bool false, .slice dA3 adNl.length dc3, .slice nA3 0 nc3, .slice sA3 0 sc3] 32) hg2 hWd2
          have e23 := below_blk hbb3 e22
          have e33 := below_blk hbb3 e32
          have hb03 := hb02.trans (hbb3.mono hb02.size)
          clear hRun3 hp3 u20 u21 u22 v20 v21 hpb3 e22 e32 hWd2
          obtain ⟨u30, u31, u32⟩ := blk3 e23
          obtain ⟨v30, v31⟩ := blk2 e33
          have hRun4 := callR4 hg3 hWd3
          have hpb4 : bs progR4 = ⟨progR4.toArray⟩ := rfl
          rw [hpb4] at hRun4
          unfold progR4 at hRun4
          go_wp2_with (go_at_call 8; refine hRun4.mono ?_)
          intro x4 w4 hp4
          obtain ⟨dA4, dc4, nA4, nc4, sA4, sc4, rfl, hS4, hb4⟩ := hp4.mk
          simp only [zeroNd, Nd.kind, Nd.exec, Nd.data, Nd.names, Nd.nodes, List.length_nil] at hS4 ⊢
          obtain ⟨hg4, hWd4, hbb4⟩ := step_facts hb4 (.cells #[.int .i64 0, .bool false, .slice dA4 0 dc4, .slice nA4 0 nc4, .slice sA4 0 sc4] 32) hg3 hWd3
          have e24 := below_blk hbb4 e23
          have e34 := below_blk hbb4 e33
          have hb04 := hb03.trans (hbb4.mono hb03.size)
          clear hRun4 hp4 u30 u31 u32 v30 v31 hpb4 e23 e33 hWd3
          have n1 := heap_alloc_new w1 (.cells #[.int .i64 1, .bool false, .slice dA1 y.length dc1, .slice nA1 0 nc1, .slice sA1 0 sc1] 32)
          have n14 := below_blk hbb4 (below_blk hbb3 (below_blk hbb2 n1))
          obtain ⟨_, _, m12, _, _⟩ := blk_cells n14
          have hcv1 := conv_bytes (hS1.kept (fun k hk => ((Below.heap_alloc _ _ _ hk).symm.trans (((hbb4.block k (by have := hbb2.size; have := hbb3.size; simp at *; omega)).trans ((hbb3.block k (by have := hbb2.size; simp at *; omega)).trans (hbb2.block k (by simp; omega)))).symm)).symm))
          have hcv0 := conv_bytes (hy.kept (fun k hk => hb04.block k hk))
          have n3 := heap_alloc_new w3 (.cells #[.int .i64 1, .bool false, .slice dA3 adNl.length dc3, .slice nA3 0 nc3, .slice sA3 0 sc3] 32)
          have n34 := below_blk hbb4 n3
          obtain ⟨_, _, m32, _, _⟩ := blk_cells n34
          have hcv3 := conv_bytes (hS3.kept (fun k hk => ((Below.heap_alloc _ _ _ hk).symm.trans (hbb4.block k (by simp; omega)).symm).symm))
          have hadl : bs adNl = ⟨#[97, 10, 100, 10]⟩ := rfl
          rw [hadl] at hcv3
          clear n1 n14 e24 e34 hWd4 hg4 hg1 hg2 hg3 hS1 hS2 hS3 hS4 hy hnd hcell hbr hg
          go_wp2
          go_ret
          exact ⟨rfl, hb04⟩
end Go.Proofs.YtejpkjcjoengbaaGreatDoor
