/-
  slices.Insert of one element into a row of the call's own, at []string and at []api.Node, by walk.
-/
import Derived.Test.YtejpkjcjoengbaaGreatDoorApp
import Derived.Test.YtejpkjcjoengbaaGreatDoorOwn
import Derived.Shelf.Spec.SlicesInsert
import Derived.Lib.AppendZerosOnto
import Derived.Laws.NewBlocks
set_option linter.unusedVariables false
set_option linter.unusedSimpArgs false
namespace Go.Proofs.YtejpkjcjoengbaaGreatDoor
open Go.RowKit Go.Lib

theorem run_copy_rowN {P : Program} (w : World) (dT sT ty elem : TypeId) (sz : Nat) (g o dLen dCap : Nat) (a : Addr) (sLen sCap : Nat) (cur : Array Value) (t : TypeId) (cs : List Value)
    (hu : P.underlying dT = some (.slice elem)) (hs : (P.info? elem).map (·.size) = some sz)
    (hg : w.heap[g]? = some (.cells cur t (0, 0))) (hn : cs.length = Nat.min sLen dLen * sz)
    (hsrc : ∀ j v, cs[j]? = some v → w.cell? (a.add j) = some v) (hfit : o + cs.length ≤ cur.size) (h1 : ∀ v ∈ cs, v.oneCell' = true) :
    (Builtin.copy_ #[dT, sT] ty #[.slice (some ⟨g, o, none⟩) dLen dCap, .slice (some a) sLen sCap]).run P w =
      .ok (goInt (Nat.min sLen dLen)) (w.setRow g (cur.toList.take o ++ cs ++ cur.toList.drop (o + cs.length)).toArray) := by
  have hl := run_firstCells_some (P := P) w sz (Nat.min sLen dLen) a sLen sCap cs hn hsrc
  have hst := run_storeCells_at P g o t cs 0 cur w hg (by simpa using hfit) h1
  cases hq : P.info? elem with
  | none => simp [hq] at hs
  | some i =>
    have hi : i.size = sz := by simpa [hq] using hs
    subst hi
    simp [Builtin.copy_, run_underlying hu, Builtin.lenOf, sizeOf, typeInfo, hq, hl, hst]

/-- What Insert tells. -/
def InsPost (B : Nat) (e : TypeId) (sz : Nat) (sv : Value) (n : Nat) (xs' : List Value) (w : World) (x : Ending) (w' : World) : Prop :=
  ∃ sv', x = .returned sv' ∧ w'.ownsRow B e sz sv' (n + 1) xs' ∧ w.grownBy w' sv.ownBlock ∧ (∀ k, sv'.ownBlock = some k → sv.ownBlock = some k ∨ w.heap.size ≤ k)

/-- The row behind the first copy, and behind the second one. -/
def row1 (cur : List Value) (p q : Nat) (cs : List Value) : List Value := cur.take (p + q) ++ cs ++ cur.drop (p + q + cs.length)
def row2 (cur : List Value) (p : Nat) (vs : List Value) : List Value := cur.take p ++ vs ++ cur.drop (p + vs.length)
theorem row_len (cur vs : List Value) (p : Nat) (h : p + vs.length ≤ cur.length) : (row2 cur p vs).length = cur.length := by
  unfold row2; simp; omega
theorem take_app3 (a b c : List Value) (k : Nat) (h : a.length + b.length ≤ k) : (a ++ b ++ c).take k = a ++ b ++ c.take (k - (a.length + b.length)) := by
  rw [List.take_append, List.take_of_length_le (by simp; omega)]; simp
/-- Shifted, then laid. -/
theorem rows_shift (cur xs vs : List Value) (p q n : Nat) (hx : cur.take n = xs) (hn : xs.length = n) (hp : p ≤ n) (hq : vs.length = q) (hc : n + q ≤ cur.length) :
    (row2 (row2 cur (p + q) (xs.drop p)) p vs).take (n + q) = xs.take p ++ vs ++ xs.drop p := by
  subst hq
  have hxp : cur.take p = xs.take p := by rw [← hx, List.take_take, Nat.min_eq_left hp]
  have e1 : row2 cur (p + vs.length) (xs.drop p) = cur.take (p + vs.length) ++ xs.drop p ++ cur.drop (n + vs.length) := by
    unfold row2
    congr 2
    simp; omega
  have e2 : (row2 cur (p + vs.length) (xs.drop p)).take p = xs.take p := by
    rw [e1, List.append_assoc, List.take_append_of_le_length (by simp; omega), List.take_take, Nat.min_eq_left (by omega), hxp]
  have e3 : (row2 cur (p + vs.length) (xs.drop p)).drop (p + vs.length) = xs.drop p ++ cur.drop (n + vs.length) := by
    rw [e1, List.append_assoc, List.drop_append_of_le_length (by simp; omega), List.drop_of_length_le (by simp; omega), List.nil_append]
  have e4 : row2 (row2 cur (p + vs.length) (xs.drop p)) p vs = xs.take p ++ vs ++ (xs.drop p ++ cur.drop (n + vs.length)) := by
    have e5 : row2 (row2 cur (p + vs.length) (xs.drop p)) p vs = (row2 cur (p + vs.length) (xs.drop p)).take p ++ vs ++ (row2 cur (p + vs.length) (xs.drop p)).drop (p + vs.length) := rfl
    rw [e5, e2, e3]
  rw [e4, take_app3 _ _ _ _ (by simp; omega)]
  congr 1
  rw [List.take_append_of_le_length (by simp; omega), List.take_of_length_le (by simp; omega)]
/-- Into a new row: laid, then what stands behind. -/
theorem rows_grow (cur xs vs : List Value) (p q n : Nat) (hx : cur.take p = xs.take p) (hn : xs.length = n) (hp : p ≤ n) (hq : vs.length = q) (hc : n + q ≤ cur.length) :
    (row2 (row2 cur p vs) (p + q) (xs.drop p)).take (n + q) = xs.take p ++ vs ++ xs.drop p := by
  subst hq
  have e1 : (row2 cur p vs).take (p + vs.length) = xs.take p ++ vs := by
    unfold row2
    rw [List.take_append_of_le_length (by simp; omega), List.take_of_length_le (by simp; omega), hx]
  have e2 : row2 (row2 cur p vs) (p + vs.length) (xs.drop p) = (xs.take p ++ vs) ++ xs.drop p ++ (row2 cur p vs).drop (p + vs.length + (xs.drop p).length) := by
    have e5 : row2 (row2 cur p vs) (p + vs.length) (xs.drop p) = (row2 cur p vs).take (p + vs.length) ++ xs.drop p ++ (row2 cur p vs).drop (p + vs.length + (xs.drop p).length) := rfl
    rw [e5, e1]
  rw [e2, List.take_append_of_le_length (by simp; omega), List.take_of_length_le (by simp; omega)]

section
variable {B i n : Nat} {xs vs : List Value} {w : World} {vb : Nat}
theorem infoS : (Tryz.prog.info? 9).map (fun i => (i.zero, i.size, i.bytes)) = some (some (.string ByteArray.empty), 1, 16) := by kernel_rfl

set_option maxHeartbeats 4000000 in
set_option maxRecDepth 100000 in
theorem ins_endS {sv : Value} (hown : w.ownsRow B 9 1 sv n xs) (hv : ∀ j u, vs[j]? = some u → w.cell? ⟨vb, j, none⟩ = some u) (hvl : vs.length = 1) (h1v : ∀ u ∈ vs, u.oneCell' = true) (hB : B ≤ w.heap.size) (hn : n ≤ 100000000) :
    Calls Tryz.prog 145 #[sv, .int .i64 n, .slice (some ⟨vb, 0, none⟩) 1 1] w (InsPost B 9 1 sv n (xs ++ vs) w) := by
  obtain ⟨i0, hi0, hz0, hzs, hzb⟩ := info_parts infoS
  have hnews : ∀ j u, vs[j]? = some u → w.cell? ((⟨vb, 0, none⟩ : Addr).add j) = some u := fun j u h => by rw [add_plain]; exact hv j u h
  have HO := Lib.hid hown
  rcases hown.2 with ⟨rfl, rfl⟩ | ⟨g, cap, cur, rfl, hb, hg, hnc, hcm, hcs, htake⟩
  · clear hown
    go_enter Tryz.func145, Tryz.ntmps145
    go_wp2_with (at_builtin; refine wpList_append_new rfl _ _ 23 rfl B 9 i0 (.string ByteArray.empty) 1 16 Tryz.underlying23 hi0 hz0 hzs hzb rfl (by decide) _ _ xs rfl HO.out ⟨vb, 0, none⟩ 1 1 vs rfl hvl hnews h1v (by decide) (by unfold maxLen; omega) (by omega) hB ?_; intro v' w' hx1 hx2 hx3; have HX := Lib.hid (And.intro hx1 (And.intro hx2 hx3)); clear hx1 hx2 hx3)
    go_ret
    exact ⟨_, rfl, HX.out.1, HX.out.2.1, HX.out.2.2⟩
  · have hcm' := hcm
    unfold maxLen at hcm'
    clear hown htake hcs hg
    go_enter Tryz.func145, Tryz.ntmps145
    go_wp2_with (at_builtin; refine wpList_append_new rfl _ _ 23 rfl B 9 i0 (.string ByteArray.empty) 1 16 Tryz.underlying23 hi0 hz0 hzs hzb rfl (by decide) _ _ xs rfl HO.out ⟨vb, 0, none⟩ 1 1 vs rfl hvl hnews h1v (by decide) (by unfold maxLen; omega) (by omega) hB ?_; intro v' w' hx1 hx2 hx3; have HX := Lib.hid (And.intro hx1 (And.intro hx2 hx3)); clear hx1 hx2 hx3)
    all_goals go_ret
    all_goals exact ⟨_, rfl, HX.out.1, HX.out.2.1, HX.out.2.2⟩

set_option maxHeartbeats 4000000 in
set_option maxRecDepth 100000 in
theorem ins_shiftS {g cap : Nat} {cur : Array Value} {tB : TypeId} {kB : Nat} (hbg : B ≤ g) (hg : w.heap[g]? = some (.cells cur 9 (0, 0))) (hcm : cap ≤ maxLen) (hcs : cur.size = cap * 1) (hxl : xs.length = n * 1) (htake : cur.toList.take (n * 1) = xs)
    (hi : i < n) (hroom : n + 1 ≤ cap) (hvb : w.heap[vb]? = some (.cells vs.toArray tB (0, 0))) (hne : vb ≠ g) (hvl : vs.length = 1) (h1x : ∀ u ∈ xs, u.oneCell' = true) (h1v : ∀ u ∈ vs, u.oneCell' = true) (hn : n ≤ 100000000) :
    Calls Tryz.prog 145 #[.slice (some ⟨g, 0, none⟩) n cap, .int .i64 i, .slice (some ⟨vb, 0, none⟩) 1 1] w (InsPost B 9 1 (.slice (some ⟨g, 0, none⟩) n cap) n (xs.take (i) ++ vs ++ xs.drop (i)) w) := by
  obtain ⟨i0, hi0, hz0, hzs, hzb⟩ := info_parts infoS
  have hsz : (Tryz.prog.info? 9).map (·.size) = some 1 := by rw [hi0]; simp [hzs]
  have hgs := (Array.getElem?_eq_some_iff.1 hg).1
  have hcl : cur.toList.length = cap * 1 := by simpa using hcs
  have hcc : ∀ (W : World), W.heap[g]? = some (.cells cur 9 (0, 0)) → ∀ j u, (xs.drop (i))[j]? = some u → W.cell? ((⟨g, i, none⟩ : Addr).add j) = some u := by
    intro W hW j u hj
    rw [Addr.add_lit, cell_of_row _ _ _ _ _ _ hW]
    rw [List.getElem?_drop, ← htake, List.getElem?_take] at hj
    split at hj
    · simpa using hj
    · cases hj
  have hcp1 : ∀ (W : World), W.heap[g]? = some (.cells cur 9 (0, 0)) → ∀ ty dc sc, (Builtin.copy_ #[23, 23] ty #[.slice (some ⟨g, (i + 1), none⟩) (n - i) dc, .slice (some ⟨g, i, none⟩) (n + 1 - i) sc]).run Tryz.prog W = .ok (goInt ((n - i : Nat) : Int)) (W.setRow g (row2 cur.toList (i + 1) (xs.drop (i))).toArray) := fun W hW ty dc sc => by
    have := run_copy_rowN W 23 23 ty 9 1 g ((i + 1)) (n - i) dc ⟨g, i, none⟩ (n + 1 - i) sc cur 9 (xs.drop (i)) Tryz.underlying23 hsz hW (by rw [List.length_drop, hxl]; simp only [Nat.min_def]; split <;> omega) (hcc W hW) (by rw [List.length_drop, hxl]; omega) (fun u hu => h1x u (List.mem_of_mem_drop hu))
    rw [this]
    try simp only [List.toList_toArray]
    unfold row2
    rw [show (i + 1) = i + 1 by omega, show Nat.min (n + 1 - i) (n - i) = n - i by simp only [Nat.min_def]; split <;> omega]
  have hl1 : (row2 cur.toList (i + 1) (xs.drop (i))).length = cap * 1 := by rw [row_len _ _ _ (by rw [List.length_drop, hxl, hcl]; omega), hcl]
  have hcp2 : ∀ (W : World), W.heap[g]? = some (.cells (row2 cur.toList (i + 1) (xs.drop (i))).toArray 9 (0, 0)) → W.heap[vb]? = some (.cells vs.toArray tB (0, 0)) → ∀ ty dc, (Builtin.copy_ #[23, 23] ty #[.slice (some ⟨g, i, none⟩) (n + 1 - i) dc, .slice (some ⟨vb, 0, none⟩) 1 1]).run Tryz.prog W = .ok (goInt ((1 : Nat) : Int)) (W.setRow g (row2 (row2 cur.toList (i + 1) (xs.drop (i))) (i) vs).toArray) := fun W hW hV ty dc => by
    have := run_copy_rowN W 23 23 ty 9 1 g (i) (n + 1 - i) dc ⟨vb, 0, none⟩ 1 1 _ 9 vs Tryz.underlying23 hsz hW (by rw [hvl]; simp only [Nat.min_def]; split <;> omega) (fun j u hj => by rw [add_plain, cell_of_row _ _ _ _ _ _ hV]; simpa using hj) (by rw [hvl, List.size_toArray, hl1]; omega) h1v
    rw [this]
    rw [show Nat.min 1 (n + 1 - i) = 1 by simp only [Nat.min_def]; split <;> omega]
    rfl
  obtain ⟨W1, hW1⟩ : ∃ W1, W1 = w.drew.setRow g (row2 cur.toList (i + 1) (xs.drop (i))).toArray := ⟨_, rfl⟩
  obtain ⟨W2, hW2⟩ : ∃ W2, W2 = W1.setRow g (row2 (row2 cur.toList (i + 1) (xs.drop (i))) (i) vs).toArray := ⟨_, rfl⟩
  have hW1g : W1.heap[g]? = some (.cells (row2 cur.toList (i + 1) (xs.drop (i))).toArray 9 (0, 0)) := by rw [hW1]; exact setRow_heap w.drew g cur _ 9 _ hg
  have hW1v : W1.heap[vb]? = some (.cells vs.toArray tB (0, 0)) := by rw [hW1]; exact (setRow_other w.drew g vb _ hne).trans hvb
  have c1 := hcp1 w.drew hg
  rw [← hW1] at c1
  have c2 := hcp2 W1 hW1g hW1v
  rw [← hW2] at c2
  have hfin : InsPost B 9 1 (.slice (some ⟨g, 0, none⟩) n cap) n (xs.take (i) ++ vs ++ xs.drop (i)) w (.returned (.slice (some ⟨g, 0, none⟩) (n + 1) cap)) W2 := by
    refine ⟨_, rfl, ⟨by simp [hxl, hvl]; omega, .inr ⟨g, cap, _, rfl, hbg, by rw [hW2]; exact setRow_heap W1 g _ _ 9 _ hW1g, hroom, hcm, ?_, ?_⟩⟩, ?_, fun k hk => .inl hk⟩
    · rw [List.size_toArray, row_len _ _ _ (by rw [hvl, hl1]; omega), hl1]
    · rw [show (n + 1) * 1 = n * 1 + 1 by omega]
      exact rows_shift cur.toList xs vs (i) 1 (n * 1) htake hxl (by omega) hvl (by rw [hcl]; omega)
    · refine ⟨by rw [hW2, hW1]; rfl, by rw [hW2, hW1]; rfl, by rw [hW2, hW1]; rfl, by rw [hW2, hW1]; simp [World.setRow], fun k hk hk2 => ?_⟩
      have hkg : k ≠ g := fun e => hk2 (by simp [Value.ownBlock, e])
      rw [hW2, setRow_other _ g k _ hkg, hW1, setRow_other _ g k _ hkg]
      rfl
  have HF := Lib.hid hfin
  have hvs : vb < w.heap.size := (Array.getElem?_eq_some_iff.1 hvb).1
  have hov : ∀ lb cb, (callFunc 168 #[.slice (some ⟨vb, 0, none⟩) 1 1, .slice (some ⟨g, (i + 1), none⟩) lb cb]).run Tryz.prog w = .ok (.value (.bool false)) w := fun lb cb => by
    rw [run_callFunc_extern Tryz.func168 (by kernel_rfl) (by kernel_rfl) (by kernel_rfl) (e := Extern.SlicesOverlaps.overlaps #[23, 23] #[4]) (by kernel_rfl),
      Lib.run_overlaps_apart w 23 4 9 Tryz.underlying23 1 (fun w => by kernel_rfl) ⟨vb, 0, none⟩ ⟨g, (i + 1), none⟩ 1 1 lb cb hne tB 9 1 cur.size (by simp [World.shape?, hvb, hvl]) (by simp [World.shape?, hg]) (by rw [hcs]; omega) (by simp [World.frozen?, hvb]) (by simp [World.frozen?, hvb])]
    rfl
  unfold maxLen at hcm
  have hz2 : ¬ ((i : Int) = (n : Int)) := by omega
  have hw1 : IntKind.i64.wrap ((i : Int) + (1 : Int)) = (i : Int) + (1 : Int) := by rw [IntKind.wrap_i64]; omega
  have hb1 : (0 : Int) ≤ (i : Int) + (1 : Int) := by omega
  have hin : i ≤ n := by omega
  have htn : ((i : Int) + (1 : Int)).toNat = i + 1 := by omega
  have hb2 : ¬ (cap = i + 1) := by omega
  have hb3 : (i : Int) ≤ (n : Int) + (1 : Int) := by omega
  have hb4 : ¬ (cap = i) := by omega
  clear hfin hcp1 hcp2 hcc hW1g hW1v hl1 htake hcs hcl hvb hg hW1 hW2
  have mixed : Tryz.prog.follows Departure.mixedOrders = true := by kernel_rfl
  go_enter Tryz.func145, Tryz.ntmps145
  go_wp2_with (simp only [hov])
  go_region_law_o (refine step_copy_runI rfl _ _ 23 23 rfl _ _ (by simp [Act.eval, Act.put]) (by simp [Act.eval, Act.put]) (c1 _ _ _) ?_)
  go_wp2
  go_ret
  exact HF.out
end

section
variable {B i n : Nat} {xs vs : List Value} {w : World} {vb : Nat}
set_option maxHeartbeats 4000000 in
set_option maxRecDepth 100000 in
theorem ins_growS {g cap : Nat} {cur : Array Value} {tB : TypeId} (hg : w.heap[g]? = some (.cells cur 9 (0, 0))) (hcm : cap ≤ maxLen) (hcs : cur.size = cap * 1) (hxl : xs.length = n * 1) (htake : cur.toList.take (n * 1) = xs) (hnc : n ≤ cap)
    (hi : i < n) (hroom : cap < n + 1) (hvb : w.heap[vb]? = some (.cells vs.toArray tB (0, 0))) (hvl : vs.length = 1) (h1x : ∀ u ∈ xs, u.oneCell' = true) (h1v : ∀ u ∈ vs, u.oneCell' = true) (hB : B ≤ w.heap.size) (hn : n ≤ 100000000) :
    Calls Tryz.prog 145 #[.slice (some ⟨g, 0, none⟩) n cap, .int .i64 i, .slice (some ⟨vb, 0, none⟩) 1 1] w (InsPost B 9 1 (.slice (some ⟨g, 0, none⟩) n cap) n (xs.take (i) ++ vs ++ xs.drop (i)) w) := by
  obtain ⟨i0, hi0, hz0, hzs, hzb⟩ := info_parts infoS
  have hsz : (Tryz.prog.info? 9).map (·.size) = some 1 := by rw [hi0]; simp [hzs]
  have hgs := (Array.getElem?_eq_some_iff.1 hg).1
  have hvs : vb < w.heap.size := (Array.getElem?_eq_some_iff.1 hvb).1
  have hcc : ∀ (W : World), W.heap[g]? = some (.cells cur 9 (0, 0)) → ∀ k j u, (xs.drop k)[j]? = some u → W.cell? ((⟨g, k, none⟩ : Addr).add j) = some u := by
    intro W hW k j u hj
    rw [Addr.add_lit, cell_of_row _ _ _ _ _ _ hW]
    rw [List.getElem?_drop, ← htake, List.getElem?_take] at hj
    split at hj
    · simpa using hj
    · cases hj
  have hold : (Builtin.firstCells i0.size i (.slice (some ⟨g, 0, none⟩) i cap)).run Tryz.prog w.drew = .ok (xs.take (i)).toArray w.drew := by
    rw [hzs]
    exact run_firstCells_some w.drew 1 i ⟨g, 0, none⟩ i cap (xs.take (i)) (by rw [List.length_take, hxl]; omega) (fun j u hj => by
      refine hcc w.drew hg 0 j u ?_
      rw [List.getElem?_take] at hj
      split at hj
      · simpa using hj
      · cases hj)
  have hkk : (n : Int) + 1 - (i : Int) = ((n + 1 - i : Nat) : Int) := by omega
  have hik : i + (n + 1 - i) = n + 1 := by omega
  have hrz : ∀ ty, (Builtin.append_ #[23, 3] ty #[.slice (some ⟨g, 0, none⟩) i cap, .int .i64 ((n : Int) + 1 - (i : Int))]).run Tryz.prog w =
      .ok (.slice (some ⟨w.heap.size, 0, none⟩) (n + 1) (grownCap w (n + 1) cap 9)) (w.drew.alloc (.cells ((xs.take (i)).toArray ++ Builtin.zeroCells ((.string ByteArray.empty) : Value).cells (n + 1 - i) ++ Builtin.zeroCells ((.string ByteArray.empty) : Value).cells (grownCap w (n + 1) cap 9 - (n + 1))) 9)) := fun ty => by
    have h := Lib.run_append_grow_zeros w 23 3 ty 9 i0 _ .i64 .i64 Tryz.underlying23 Tryz.underlying3 hi0 hz0 (some ⟨g, 0, none⟩) i cap (xs.take (i)) hold (n + 1 - i) (by omega) (by omega) (by omega) (by omega) (by rw [hzb]; omega) (by rw [hzb, hik]; exact growslice_fits hroom (by omega))
    rw [hik] at h
    rw [hkk]
    exact h
  have hGn : n + 1 ≤ grownCap w (n + 1) cap 9 := grownCap_ge w _ _ _
  have hGm : grownCap w (n + 1) cap 9 ≤ maxLen := grownCap_le_maxLen w (n + 1) cap 9 (by unfold maxLen; omega)
  generalize grownCap w (n + 1) cap 9 = G at *
  have hzc : ((.string ByteArray.empty) : Value).cells.size = 1 := rfl
  have hRl : ((xs.take (i)).toArray ++ Builtin.zeroCells ((.string ByteArray.empty) : Value).cells (n + 1 - i) ++ Builtin.zeroCells ((.string ByteArray.empty) : Value).cells (G - (n + 1))).toList.length = G * 1 := by
    simp only [Array.length_toList, Array.size_append, size_zeroCells, hzc, List.size_toArray, List.length_take, hxl]; omega
  have hRt : ((xs.take (i)).toArray ++ Builtin.zeroCells ((.string ByteArray.empty) : Value).cells (n + 1 - i) ++ Builtin.zeroCells ((.string ByteArray.empty) : Value).cells (G - (n + 1))).toList.take (i) = xs.take (i) := by
    simp only [Array.toList_append, List.append_assoc]
    rw [List.take_append_of_le_length (by simp [hxl]; omega), List.take_of_length_le (by simp only [List.length_take]; omega)]
  generalize (xs.take (i)).toArray ++ Builtin.zeroCells ((.string ByteArray.empty) : Value).cells (n + 1 - i) ++ Builtin.zeroCells ((.string ByteArray.empty) : Value).cells (G - (n + 1)) = ROW at *
  obtain ⟨W1, hW1⟩ : ∃ W1, W1 = w.drew.alloc (.cells ROW 9) := ⟨_, rfl⟩
  have h1N : W1.heap[w.heap.size]? = some (.cells ROW 9 (0, 0)) := by rw [hW1]; exact heap_alloc_new w.drew _
  have h1o : ∀ k, k < w.heap.size → W1.heap[k]? = w.heap[k]? := fun k hk => by rw [hW1]; exact heap_alloc_old w.drew _ hk
  have hl1 : (row2 ROW.toList (i) vs).length = G * 1 := by rw [row_len _ _ _ (by rw [hvl, hRl]; omega), hRl]
  have hcpA : ∀ (W : World), W.heap = W1.heap → ∀ ty dc, (Builtin.copy_ #[23, 23] ty #[.slice (some ⟨w.heap.size, i, none⟩) (n + 1 - i) dc, .slice (some ⟨vb, 0, none⟩) 1 1]).run Tryz.prog W = .ok (goInt ((1 : Nat) : Int)) (W.setRow w.heap.size (row2 ROW.toList (i) vs).toArray) := fun W hW ty dc => by
    have := run_copy_rowN W 23 23 ty 9 1 w.heap.size (i) (n + 1 - i) dc ⟨vb, 0, none⟩ 1 1 ROW 9 vs Tryz.underlying23 hsz (by rw [hW]; exact h1N) (by rw [hvl]; simp only [Nat.min_def]; split <;> omega) (fun j u hj => by rw [add_plain, cell_of_row _ _ _ _ _ _ (by rw [hW, h1o vb hvs]; exact hvb)]; simpa using hj) (by rw [hvl]; have := hRl; rw [Array.length_toList] at this; omega) h1v
    rw [this]
    rw [show Nat.min 1 (n + 1 - i) = 1 by simp only [Nat.min_def]; split <;> omega]
    rfl
  obtain ⟨W2, hW2⟩ : ∃ W2, W2 = W1.setRow w.heap.size (row2 ROW.toList (i) vs).toArray := ⟨_, rfl⟩
  have h2N : W2.heap[w.heap.size]? = some (.cells (row2 ROW.toList (i) vs).toArray 9 (0, 0)) := by rw [hW2]; exact setRow_heap W1 _ _ _ 9 _ h1N
  have h2o : ∀ k, k < w.heap.size → W2.heap[k]? = w.heap[k]? := fun k hk => by rw [hW2, setRow_other _ _ k _ (by omega)]; exact h1o k hk
  have hcpB : ∀ (W : World), W.heap = W2.heap → ∀ ty dc sc, (Builtin.copy_ #[23, 23] ty #[.slice (some ⟨w.heap.size, (i + 1), none⟩) (n - i) dc, .slice (some ⟨g, i, none⟩) (n - i) sc]).run Tryz.prog W = .ok (goInt ((n - i : Nat) : Int)) (W.setRow w.heap.size (row2 (row2 ROW.toList (i) vs) (i + 1) (xs.drop (i))).toArray) := fun W hW ty dc sc => by
    have := run_copy_rowN W 23 23 ty 9 1 w.heap.size ((i + 1)) (n - i) dc ⟨g, i, none⟩ (n - i) sc _ 9 (xs.drop (i)) Tryz.underlying23 hsz (by rw [hW]; exact h2N) (by rw [List.length_drop, hxl]; simp only [Nat.min_def]; split <;> omega) (hcc W (by rw [hW, h2o g hgs]; exact hg) (i)) (by rw [List.length_drop, hxl, List.size_toArray, hl1]; omega) (fun u hu => h1x u (List.mem_of_mem_drop hu))
    rw [this]
    try simp only [List.toList_toArray]
    unfold row2
    rw [show (i + 1) = i + 1 by omega, show Nat.min (n - i) (n - i) = n - i by simp only [Nat.min_def]; split <;> omega]
  have hfin : ∀ W : World, W.heap = (W2.setRow w.heap.size (row2 (row2 ROW.toList (i) vs) (i + 1) (xs.drop (i))).toArray).heap → W.os = w.os → W.tape = w.tape → W.output = w.output → InsPost B 9 1 (.slice (some ⟨g, 0, none⟩) n cap) n (xs.take (i) ++ vs ++ xs.drop (i)) w (.returned (.slice (some ⟨w.heap.size, 0, none⟩) (n + 1) G)) W := by
    intro W hW ho ht hp
    refine ⟨_, rfl, ⟨by simp [hxl, hvl]; omega, .inr ⟨w.heap.size, G, _, rfl, hB, by rw [hW]; exact setRow_heap W2 _ _ _ 9 _ h2N, hGn, hGm, ?_, ?_⟩⟩, ?_, fun k hk => .inr (by simp [Value.ownBlock] at hk; omega)⟩
    · rw [List.size_toArray, row_len _ _ _ (by rw [List.length_drop, hxl, hl1]; omega), hl1]
    · rw [show (n + 1) * 1 = n * 1 + 1 by omega]
      exact rows_grow ROW.toList xs vs (i) 1 (n * 1) hRt hxl (by omega) hvl (by rw [hRl]; omega)
    · refine ⟨ho, ht, hp, ?_, fun k hk hk2 => ?_⟩
      · rw [hW, hW2, hW1]; simp [World.setRow]
      · rw [hW, setRow_other _ _ k _ (by omega)]
        exact h2o k hk
  have HF := Lib.hid hfin
  subst hW2 hW1
  unfold maxLen at hcm hGm
  have hz2 : ¬ ((i : Int) = (n : Int)) := by omega
  have hz3 : (cap : Int) < (n : Int) + 1 := by omega
  have hw1 : IntKind.i64.wrap ((i : Int) + (1 : Int)) = (i : Int) + (1 : Int) := by rw [IntKind.wrap_i64]; omega
  have hb1 : (0 : Int) ≤ (i : Int) + (1 : Int) := by omega
  have hin : i ≤ n := by omega
  have htn : ((i : Int) + (1 : Int)).toNat = i + 1 := by omega
  have hGi : ¬ (G = i) := by omega
  have hGim : ¬ (G = i + 1) := by omega
  have hci : ¬ (cap = i) := by omega
  have hb3 : (i : Int) ≤ (n : Int) := by omega
  clear hfin h1N h1o h2N h2o hl1 hRl hRt hcc hold hkk hik hcs htake hg hvb
  have mixed : Tryz.prog.follows Departure.mixedOrders = true := by kernel_rfl
  go_enter Tryz.func145, Tryz.ntmps145
  have cA := hcpA (w.alloc (.cells ROW 9)).drew rfl
  have cB := hcpB ((w.alloc (.cells ROW 9)).drew.setRow w.heap.size (row2 ROW.toList (i) vs).toArray).drew rfl
  go_wp2_with (at_builtin; refine Lib.wpList_append_run _ rfl _ _ _ _ rfl _ _ rfl rfl _ _ (hrz _) ?_)
  go_region_law_o (refine step_copy_runI rfl _ _ 23 23 rfl (.slice (some ⟨w.heap.size, (i + 1), none⟩) (n - i) (G - (i + 1))) (.slice (some ⟨g, i, none⟩) (n - i) (cap - i)) (by simp [Act.eval, Act.put]) (by simp [Act.eval, Act.put]) (cB _ _ _) ?_)
  go_wp2
  go_ret
  exact HF.out _ rfl rfl rfl rfl

/-- One element more in a row of the call's own. -/
theorem insS {sv : Value} {tB : TypeId} (hown : w.ownsRow B 9 1 sv n xs) (hi : i ≤ n) (hvb : w.heap[vb]? = some (.cells vs.toArray tB (0, 0))) (hne : sv.ownBlock ≠ some vb) (hvl : vs.length = 1) (h1x : ∀ u ∈ xs, u.oneCell' = true) (h1v : ∀ u ∈ vs, u.oneCell' = true) (hB : B ≤ w.heap.size) (hn : n ≤ 100000000) :
    Calls Tryz.prog 145 #[sv, .int .i64 i, .slice (some ⟨vb, 0, none⟩) 1 1] w (InsPost B 9 1 sv n (xs.take (i) ++ vs ++ xs.drop (i)) w) := by
  by_cases hin : i = n
  · subst hin
    have hx : xs.take (i) ++ vs ++ xs.drop (i) = xs ++ vs := by rw [List.take_of_length_le (by rw [hown.1]; omega), List.drop_of_length_le (by rw [hown.1]; omega), List.append_nil]
    rw [hx]
    exact ins_endS hown (fun j u hj => by rw [cell_of_row _ _ _ _ _ _ hvb]; simpa using hj) hvl h1v hB hn
  · have hxl := hown.1
    rcases hown.2 with ⟨rfl, rfl⟩ | ⟨g, cap, cur, rfl, hb, hg, hnc, hcm, hcs, htake⟩
    · omega
    · by_cases hroom : n + 1 ≤ cap
      · exact ins_shiftS (kB := 0) hb hg hcm hcs hxl htake (by omega) hroom hvb (fun e => hne (by simp [Value.ownBlock, e])) hvl h1x h1v hn
      · exact ins_growS hg hcm hcs hxl htake hnc (by omega) (by omega) hvb hvl h1x h1v hB hn
end

section
variable {B i n : Nat} {xs vs : List Value} {w : World} {vb : Nat}
theorem infoN : (Tryz.prog.info? 32).map (fun i => (i.zero, i.size, i.bytes)) = some (some (.agg #[.int .i64 0, .bool false, .slice none 0 0, .slice none 0 0, .slice none 0 0]), 5, 88) := by kernel_rfl

set_option maxHeartbeats 4000000 in
set_option maxRecDepth 100000 in
theorem ins_endN {sv : Value} (hown : w.ownsRow B 32 5 sv n xs) (hv : ∀ j u, vs[j]? = some u → w.cell? ⟨vb, j, none⟩ = some u) (hvl : vs.length = 5) (h1v : ∀ u ∈ vs, u.oneCell' = true) (hB : B ≤ w.heap.size) (hn : n ≤ 100000000) :
    Calls Tryz.prog 146 #[sv, .int .i64 n, .slice (some ⟨vb, 0, none⟩) 1 1] w (InsPost B 32 5 sv n (xs ++ vs) w) := by
  obtain ⟨i0, hi0, hz0, hzs, hzb⟩ := info_parts infoN
  have hnews : ∀ j u, vs[j]? = some u → w.cell? ((⟨vb, 0, none⟩ : Addr).add j) = some u := fun j u h => by rw [add_plain]; exact hv j u h
  have HO := Lib.hid hown
  rcases hown.2 with ⟨rfl, rfl⟩ | ⟨g, cap, cur, rfl, hb, hg, hnc, hcm, hcs, htake⟩
  · clear hown
    go_enter Tryz.func146, Tryz.ntmps146
    go_wp2_with (at_builtin; refine wpList_append_new rfl _ _ 30 rfl B 32 i0 (.agg #[.int .i64 0, .bool false, .slice none 0 0, .slice none 0 0, .slice none 0 0]) 5 88 Tryz.underlying30 hi0 hz0 hzs hzb rfl (by decide) _ _ xs rfl HO.out ⟨vb, 0, none⟩ 1 1 vs rfl hvl hnews h1v (by decide) (by unfold maxLen; omega) (by omega) hB ?_; intro v' w' hx1 hx2 hx3; have HX := Lib.hid (And.intro hx1 (And.intro hx2 hx3)); clear hx1 hx2 hx3)
    go_ret
    exact ⟨_, rfl, HX.out.1, HX.out.2.1, HX.out.2.2⟩
  · have hcm' := hcm
    unfold maxLen at hcm'
    clear hown htake hcs hg
    go_enter Tryz.func146, Tryz.ntmps146
    go_wp2_with (at_builtin; refine wpList_append_new rfl _ _ 30 rfl B 32 i0 (.agg #[.int .i64 0, .bool false, .slice none 0 0, .slice none 0 0, .slice none 0 0]) 5 88 Tryz.underlying30 hi0 hz0 hzs hzb rfl (by decide) _ _ xs rfl HO.out ⟨vb, 0, none⟩ 1 1 vs rfl hvl hnews h1v (by decide) (by unfold maxLen; omega) (by omega) hB ?_; intro v' w' hx1 hx2 hx3; have HX := Lib.hid (And.intro hx1 (And.intro hx2 hx3)); clear hx1 hx2 hx3)
    all_goals go_ret
    all_goals exact ⟨_, rfl, HX.out.1, HX.out.2.1, HX.out.2.2⟩

set_option maxHeartbeats 4000000 in
set_option maxRecDepth 100000 in
theorem ins_shiftN {g cap : Nat} {cur : Array Value} {tB : TypeId} {kB : Nat} (hbg : B ≤ g) (hg : w.heap[g]? = some (.cells cur 32 (0, 0))) (hcm : cap ≤ maxLen) (hcs : cur.size = cap * 5) (hxl : xs.length = n * 5) (htake : cur.toList.take (n * 5) = xs)
    (hi : i < n) (hroom : n + 1 ≤ cap) (hvb : w.heap[vb]? = some (.cells vs.toArray tB (0, 0))) (hne : vb ≠ g) (hvl : vs.length = 5) (h1x : ∀ u ∈ xs, u.oneCell' = true) (h1v : ∀ u ∈ vs, u.oneCell' = true) (hn : n ≤ 100000000) :
    Calls Tryz.prog 146 #[.slice (some ⟨g, 0, none⟩) n cap, .int .i64 i, .slice (some ⟨vb, 0, none⟩) 1 1] w (InsPost B 32 5 (.slice (some ⟨g, 0, none⟩) n cap) n (xs.take (i * 5) ++ vs ++ xs.drop (i * 5)) w) := by
  obtain ⟨i0, hi0, hz0, hzs, hzb⟩ := info_parts infoN
  have hsz : (Tryz.prog.info? 32).map (·.size) = some 5 := by rw [hi0]; simp [hzs]
  have hgs := (Array.getElem?_eq_some_iff.1 hg).1
  have hcl : cur.toList.length = cap * 5 := by simpa using hcs
  have hcc : ∀ (W : World), W.heap[g]? = some (.cells cur 32 (0, 0)) → ∀ j u, (xs.drop (i * 5))[j]? = some u → W.cell? ((⟨g, i * 5, none⟩ : Addr).add j) = some u := by
    intro W hW j u hj
    rw [Addr.add_lit, cell_of_row _ _ _ _ _ _ hW]
    rw [List.getElem?_drop, ← htake, List.getElem?_take] at hj
    split at hj
    · simpa using hj
    · cases hj
  have hcp1 : ∀ (W : World), W.heap[g]? = some (.cells cur 32 (0, 0)) → ∀ ty dc sc, (Builtin.copy_ #[30, 30] ty #[.slice (some ⟨g, (i + 1) * 5, none⟩) (n - i) dc, .slice (some ⟨g, i * 5, none⟩) (n + 1 - i) sc]).run Tryz.prog W = .ok (goInt ((n - i : Nat) : Int)) (W.setRow g (row2 cur.toList (i * 5 + 5) (xs.drop (i * 5))).toArray) := fun W hW ty dc sc => by
    have := run_copy_rowN W 30 30 ty 32 5 g ((i + 1) * 5) (n - i) dc ⟨g, i * 5, none⟩ (n + 1 - i) sc cur 32 (xs.drop (i * 5)) Tryz.underlying30 hsz hW (by rw [List.length_drop, hxl]; simp only [Nat.min_def]; split <;> omega) (hcc W hW) (by rw [List.length_drop, hxl]; omega) (fun u hu => h1x u (List.mem_of_mem_drop hu))
    rw [this]
    try simp only [List.toList_toArray]
    unfold row2
    rw [show (i + 1) * 5 = i * 5 + 5 by omega, show Nat.min (n + 1 - i) (n - i) = n - i by simp only [Nat.min_def]; split <;> omega]
  have hl1 : (row2 cur.toList (i * 5 + 5) (xs.drop (i * 5))).length = cap * 5 := by rw [row_len _ _ _ (by rw [List.length_drop, hxl, hcl]; omega), hcl]
  have hcp2 : ∀ (W : World), W.heap[g]? = some (.cells (row2 cur.toList (i * 5 + 5) (xs.drop (i * 5))).toArray 32 (0, 0)) → W.heap[vb]? = some (.cells vs.toArray tB (0, 0)) → ∀ ty dc, (Builtin.copy_ #[30, 30] ty #[.slice (some ⟨g, i * 5, none⟩) (n + 1 - i) dc, .slice (some ⟨vb, 0, none⟩) 1 1]).run Tryz.prog W = .ok (goInt ((1 : Nat) : Int)) (W.setRow g (row2 (row2 cur.toList (i * 5 + 5) (xs.drop (i * 5))) (i * 5) vs).toArray) := fun W hW hV ty dc => by
    have := run_copy_rowN W 30 30 ty 32 5 g (i * 5) (n + 1 - i) dc ⟨vb, 0, none⟩ 1 1 _ 32 vs Tryz.underlying30 hsz hW (by rw [hvl]; simp only [Nat.min_def]; split <;> omega) (fun j u hj => by rw [add_plain, cell_of_row _ _ _ _ _ _ hV]; simpa using hj) (by rw [hvl, List.size_toArray, hl1]; omega) h1v
    rw [this]
    rw [show Nat.min 1 (n + 1 - i) = 1 by simp only [Nat.min_def]; split <;> omega]
    rfl
  obtain ⟨W1, hW1⟩ : ∃ W1, W1 = w.drew.setRow g (row2 cur.toList (i * 5 + 5) (xs.drop (i * 5))).toArray := ⟨_, rfl⟩
  obtain ⟨W2, hW2⟩ : ∃ W2, W2 = W1.setRow g (row2 (row2 cur.toList (i * 5 + 5) (xs.drop (i * 5))) (i * 5) vs).toArray := ⟨_, rfl⟩
  have hW1g : W1.heap[g]? = some (.cells (row2 cur.toList (i * 5 + 5) (xs.drop (i * 5))).toArray 32 (0, 0)) := by rw [hW1]; exact setRow_heap w.drew g cur _ 32 _ hg
  have hW1v : W1.heap[vb]? = some (.cells vs.toArray tB (0, 0)) := by rw [hW1]; exact (setRow_other w.drew g vb _ hne).trans hvb
  have c1 := hcp1 w.drew hg
  rw [← hW1] at c1
  have c2 := hcp2 W1 hW1g hW1v
  rw [← hW2] at c2
  have hfin : InsPost B 32 5 (.slice (some ⟨g, 0, none⟩) n cap) n (xs.take (i * 5) ++ vs ++ xs.drop (i * 5)) w (.returned (.slice (some ⟨g, 0, none⟩) (n + 1) cap)) W2 := by
    refine ⟨_, rfl, ⟨by simp [hxl, hvl]; omega, .inr ⟨g, cap, _, rfl, hbg, by rw [hW2]; exact setRow_heap W1 g _ _ 32 _ hW1g, hroom, hcm, ?_, ?_⟩⟩, ?_, fun k hk => .inl hk⟩
    · rw [List.size_toArray, row_len _ _ _ (by rw [hvl, hl1]; omega), hl1]
    · rw [show (n + 1) * 5 = n * 5 + 5 by omega]
      exact rows_shift cur.toList xs vs (i * 5) 5 (n * 5) htake hxl (by omega) hvl (by rw [hcl]; omega)
    · refine ⟨by rw [hW2, hW1]; rfl, by rw [hW2, hW1]; rfl, by rw [hW2, hW1]; rfl, by rw [hW2, hW1]; simp [World.setRow], fun k hk hk2 => ?_⟩
      have hkg : k ≠ g := fun e => hk2 (by simp [Value.ownBlock, e])
      rw [hW2, setRow_other _ g k _ hkg, hW1, setRow_other _ g k _ hkg]
      rfl
  have HF := Lib.hid hfin
  have hvs : vb < w.heap.size := (Array.getElem?_eq_some_iff.1 hvb).1
  have hov : ∀ lb cb, (callFunc 170 #[.slice (some ⟨vb, 0, none⟩) 1 1, .slice (some ⟨g, (i + 1) * 5, none⟩) lb cb]).run Tryz.prog w = .ok (.value (.bool false)) w := fun lb cb => by
    rw [run_callFunc_extern Tryz.func170 (by kernel_rfl) (by kernel_rfl) (by kernel_rfl) (e := Extern.SlicesOverlaps.overlaps #[30, 30] #[4]) (by kernel_rfl),
      Lib.run_overlaps_apart w 30 4 32 Tryz.underlying30 5 (fun w => by kernel_rfl) ⟨vb, 0, none⟩ ⟨g, (i + 1) * 5, none⟩ 1 1 lb cb hne tB 32 5 cur.size (by simp [World.shape?, hvb, hvl]) (by simp [World.shape?, hg]) (by rw [hcs]; omega) (by simp [World.frozen?, hvb]) (by simp [World.frozen?, hvb])]
    rfl
  unfold maxLen at hcm
  have hz2 : ¬ ((i : Int) = (n : Int)) := by omega
  have hw1 : IntKind.i64.wrap ((i : Int) + (1 : Int)) = (i : Int) + (1 : Int) := by rw [IntKind.wrap_i64]; omega
  have hb1 : (0 : Int) ≤ (i : Int) + (1 : Int) := by omega
  have hin : i ≤ n := by omega
  have htn : ((i : Int) + (1 : Int)).toNat = i + 1 := by omega
  have hb2 : ¬ (cap = i + 1) := by omega
  have hb3 : (i : Int) ≤ (n : Int) + (1 : Int) := by omega
  have hb4 : ¬ (cap = i) := by omega
  clear hfin hcp1 hcp2 hcc hW1g hW1v hl1 htake hcs hcl hvb hg hW1 hW2
  have mixed : Tryz.prog.follows Departure.mixedOrders = true := by kernel_rfl
  go_enter Tryz.func146, Tryz.ntmps146
  go_wp2_with (simp only [hov])
  go_region_law_o (refine step_copy_runI rfl _ _ 30 30 rfl _ _ (by simp [Act.eval, Act.put]) (by simp [Act.eval, Act.put]) (c1 _ _ _) ?_)
  go_wp2
  go_ret
  exact HF.out
end

section
variable {B i n : Nat} {xs vs : List Value} {w : World} {vb : Nat}
set_option maxHeartbeats 4000000 in
set_option maxRecDepth 100000 in
theorem ins_growN {g cap : Nat} {cur : Array Value} {tB : TypeId} (hg : w.heap[g]? = some (.cells cur 32 (0, 0))) (hcm : cap ≤ maxLen) (hcs : cur.size = cap * 5) (hxl : xs.length = n * 5) (htake : cur.toList.take (n * 5) = xs) (hnc : n ≤ cap)
    (hi : i < n) (hroom : cap < n + 1) (hvb : w.heap[vb]? = some (.cells vs.toArray tB (0, 0))) (hvl : vs.length = 5) (h1x : ∀ u ∈ xs, u.oneCell' = true) (h1v : ∀ u ∈ vs, u.oneCell' = true) (hB : B ≤ w.heap.size) (hn : n ≤ 100000000) :
    Calls Tryz.prog 146 #[.slice (some ⟨g, 0, none⟩) n cap, .int .i64 i, .slice (some ⟨vb, 0, none⟩) 1 1] w (InsPost B 32 5 (.slice (some ⟨g, 0, none⟩) n cap) n (xs.take (i * 5) ++ vs ++ xs.drop (i * 5)) w) := by
  obtain ⟨i0, hi0, hz0, hzs, hzb⟩ := info_parts infoN
  have hsz : (Tryz.prog.info? 32).map (·.size) = some 5 := by rw [hi0]; simp [hzs]
  have hgs := (Array.getElem?_eq_some_iff.1 hg).1
  have hvs : vb < w.heap.size := (Array.getElem?_eq_some_iff.1 hvb).1
  have hcc : ∀ (W : World), W.heap[g]? = some (.cells cur 32 (0, 0)) → ∀ k j u, (xs.drop k)[j]? = some u → W.cell? ((⟨g, k, none⟩ : Addr).add j) = some u := by
    intro W hW k j u hj
    rw [Addr.add_lit, cell_of_row _ _ _ _ _ _ hW]
    rw [List.getElem?_drop, ← htake, List.getElem?_take] at hj
    split at hj
    · simpa using hj
    · cases hj
  have hold : (Builtin.firstCells i0.size i (.slice (some ⟨g, 0, none⟩) i cap)).run Tryz.prog w.drew = .ok (xs.take (i * 5)).toArray w.drew := by
    rw [hzs]
    exact run_firstCells_some w.drew 5 i ⟨g, 0, none⟩ i cap (xs.take (i * 5)) (by rw [List.length_take, hxl]; omega) (fun j u hj => by
      refine hcc w.drew hg 0 j u ?_
      rw [List.getElem?_take] at hj
      split at hj
      · simpa using hj
      · cases hj)
  have hkk : (n : Int) + 1 - (i : Int) = ((n + 1 - i : Nat) : Int) := by omega
  have hik : i + (n + 1 - i) = n + 1 := by omega
  have hrz : ∀ ty, (Builtin.append_ #[30, 3] ty #[.slice (some ⟨g, 0, none⟩) i cap, .int .i64 ((n : Int) + 1 - (i : Int))]).run Tryz.prog w =
      .ok (.slice (some ⟨w.heap.size, 0, none⟩) (n + 1) (grownCap w (n + 1) cap 32)) (w.drew.alloc (.cells ((xs.take (i * 5)).toArray ++ Builtin.zeroCells ((.agg #[.int .i64 0, .bool false, .slice none 0 0, .slice none 0 0, .slice none 0 0]) : Value).cells (n + 1 - i) ++ Builtin.zeroCells ((.agg #[.int .i64 0, .bool false, .slice none 0 0, .slice none 0 0, .slice none 0 0]) : Value).cells (grownCap w (n + 1) cap 32 - (n + 1))) 32)) := fun ty => by
    have h := Lib.run_append_grow_zeros w 30 3 ty 32 i0 _ .i64 .i64 Tryz.underlying30 Tryz.underlying3 hi0 hz0 (some ⟨g, 0, none⟩) i cap (xs.take (i * 5)) hold (n + 1 - i) (by omega) (by omega) (by omega) (by omega) (by rw [hzb]; omega) (by rw [hzb, hik]; exact growslice_fits hroom (by omega))
    rw [hik] at h
    rw [hkk]
    exact h
  have hGn : n + 1 ≤ grownCap w (n + 1) cap 32 := grownCap_ge w _ _ _
  have hGm : grownCap w (n + 1) cap 32 ≤ maxLen := grownCap_le_maxLen w (n + 1) cap 32 (by unfold maxLen; omega)
  generalize grownCap w (n + 1) cap 32 = G at *
  have hzc : ((.agg #[.int .i64 0, .bool false, .slice none 0 0, .slice none 0 0, .slice none 0 0]) : Value).cells.size = 5 := rfl
  have hRl : ((xs.take (i * 5)).toArray ++ Builtin.zeroCells ((.agg #[.int .i64 0, .bool false, .slice none 0 0, .slice none 0 0, .slice none 0 0]) : Value).cells (n + 1 - i) ++ Builtin.zeroCells ((.agg #[.int .i64 0, .bool false, .slice none 0 0, .slice none 0 0, .slice none 0 0]) : Value).cells (G - (n + 1))).toList.length = G * 5 := by
    simp only [Array.length_toList, Array.size_append, size_zeroCells, hzc, List.size_toArray, List.length_take, hxl]; omega
  have hRt : ((xs.take (i * 5)).toArray ++ Builtin.zeroCells ((.agg #[.int .i64 0, .bool false, .slice none 0 0, .slice none 0 0, .slice none 0 0]) : Value).cells (n + 1 - i) ++ Builtin.zeroCells ((.agg #[.int .i64 0, .bool false, .slice none 0 0, .slice none 0 0, .slice none 0 0]) : Value).cells (G - (n + 1))).toList.take (i * 5) = xs.take (i * 5) := by
    simp only [Array.toList_append, List.append_assoc]
    rw [List.take_append_of_le_length (by simp [hxl]; omega), List.take_of_length_le (by simp only [List.length_take]; omega)]
  generalize (xs.take (i * 5)).toArray ++ Builtin.zeroCells ((.agg #[.int .i64 0, .bool false, .slice none 0 0, .slice none 0 0, .slice none 0 0]) : Value).cells (n + 1 - i) ++ Builtin.zeroCells ((.agg #[.int .i64 0, .bool false, .slice none 0 0, .slice none 0 0, .slice none 0 0]) : Value).cells (G - (n + 1)) = ROW at *
  obtain ⟨W1, hW1⟩ : ∃ W1, W1 = w.drew.alloc (.cells ROW 32) := ⟨_, rfl⟩
  have h1N : W1.heap[w.heap.size]? = some (.cells ROW 32 (0, 0)) := by rw [hW1]; exact heap_alloc_new w.drew _
  have h1o : ∀ k, k < w.heap.size → W1.heap[k]? = w.heap[k]? := fun k hk => by rw [hW1]; exact heap_alloc_old w.drew _ hk
  have hl1 : (row2 ROW.toList (i * 5) vs).length = G * 5 := by rw [row_len _ _ _ (by rw [hvl, hRl]; omega), hRl]
  have hcpA : ∀ (W : World), W.heap = W1.heap → ∀ ty dc, (Builtin.copy_ #[30, 30] ty #[.slice (some ⟨w.heap.size, i * 5, none⟩) (n + 1 - i) dc, .slice (some ⟨vb, 0, none⟩) 1 1]).run Tryz.prog W = .ok (goInt ((1 : Nat) : Int)) (W.setRow w.heap.size (row2 ROW.toList (i * 5) vs).toArray) := fun W hW ty dc => by
    have := run_copy_rowN W 30 30 ty 32 5 w.heap.size (i * 5) (n + 1 - i) dc ⟨vb, 0, none⟩ 1 1 ROW 32 vs Tryz.underlying30 hsz (by rw [hW]; exact h1N) (by rw [hvl]; simp only [Nat.min_def]; split <;> omega) (fun j u hj => by rw [add_plain, cell_of_row _ _ _ _ _ _ (by rw [hW, h1o vb hvs]; exact hvb)]; simpa using hj) (by rw [hvl]; have := hRl; rw [Array.length_toList] at this; omega) h1v
    rw [this]
    rw [show Nat.min 1 (n + 1 - i) = 1 by simp only [Nat.min_def]; split <;> omega]
    rfl
  obtain ⟨W2, hW2⟩ : ∃ W2, W2 = W1.setRow w.heap.size (row2 ROW.toList (i * 5) vs).toArray := ⟨_, rfl⟩
  have h2N : W2.heap[w.heap.size]? = some (.cells (row2 ROW.toList (i * 5) vs).toArray 32 (0, 0)) := by rw [hW2]; exact setRow_heap W1 _ _ _ 32 _ h1N
  have h2o : ∀ k, k < w.heap.size → W2.heap[k]? = w.heap[k]? := fun k hk => by rw [hW2, setRow_other _ _ k _ (by omega)]; exact h1o k hk
  have hcpB : ∀ (W : World), W.heap = W2.heap → ∀ ty dc sc, (Builtin.copy_ #[30, 30] ty #[.slice (some ⟨w.heap.size, (i + 1) * 5, none⟩) (n - i) dc, .slice (some ⟨g, i * 5, none⟩) (n - i) sc]).run Tryz.prog W = .ok (goInt ((n - i : Nat) : Int)) (W.setRow w.heap.size (row2 (row2 ROW.toList (i * 5) vs) (i * 5 + 5) (xs.drop (i * 5))).toArray) := fun W hW ty dc sc => by
    have := run_copy_rowN W 30 30 ty 32 5 w.heap.size ((i + 1) * 5) (n - i) dc ⟨g, i * 5, none⟩ (n - i) sc _ 32 (xs.drop (i * 5)) Tryz.underlying30 hsz (by rw [hW]; exact h2N) (by rw [List.length_drop, hxl]; simp only [Nat.min_def]; split <;> omega) (hcc W (by rw [hW, h2o g hgs]; exact hg) (i * 5)) (by rw [List.length_drop, hxl, List.size_toArray, hl1]; omega) (fun u hu => h1x u (List.mem_of_mem_drop hu))
    rw [this]
    try simp only [List.toList_toArray]
    unfold row2
    rw [show (i + 1) * 5 = i * 5 + 5 by omega, show Nat.min (n - i) (n - i) = n - i by simp only [Nat.min_def]; split <;> omega]
  have hfin : ∀ W : World, W.heap = (W2.setRow w.heap.size (row2 (row2 ROW.toList (i * 5) vs) (i * 5 + 5) (xs.drop (i * 5))).toArray).heap → W.os = w.os → W.tape = w.tape → W.output = w.output → InsPost B 32 5 (.slice (some ⟨g, 0, none⟩) n cap) n (xs.take (i * 5) ++ vs ++ xs.drop (i * 5)) w (.returned (.slice (some ⟨w.heap.size, 0, none⟩) (n + 1) G)) W := by
    intro W hW ho ht hp
    refine ⟨_, rfl, ⟨by simp [hxl, hvl]; omega, .inr ⟨w.heap.size, G, _, rfl, hB, by rw [hW]; exact setRow_heap W2 _ _ _ 32 _ h2N, hGn, hGm, ?_, ?_⟩⟩, ?_, fun k hk => .inr (by simp [Value.ownBlock] at hk; omega)⟩
    · rw [List.size_toArray, row_len _ _ _ (by rw [List.length_drop, hxl, hl1]; omega), hl1]
    · rw [show (n + 1) * 5 = n * 5 + 5 by omega]
      exact rows_grow ROW.toList xs vs (i * 5) 5 (n * 5) hRt hxl (by omega) hvl (by rw [hRl]; omega)
    · refine ⟨ho, ht, hp, ?_, fun k hk hk2 => ?_⟩
      · rw [hW, hW2, hW1]; simp [World.setRow]
      · rw [hW, setRow_other _ _ k _ (by omega)]
        exact h2o k hk
  have HF := Lib.hid hfin
  subst hW2 hW1
  unfold maxLen at hcm hGm
  have hz2 : ¬ ((i : Int) = (n : Int)) := by omega
  have hz3 : (cap : Int) < (n : Int) + 1 := by omega
  have hw1 : IntKind.i64.wrap ((i : Int) + (1 : Int)) = (i : Int) + (1 : Int) := by rw [IntKind.wrap_i64]; omega
  have hb1 : (0 : Int) ≤ (i : Int) + (1 : Int) := by omega
  have hin : i ≤ n := by omega
  have htn : ((i : Int) + (1 : Int)).toNat = i + 1 := by omega
  have hGi : ¬ (G = i) := by omega
  have hGim : ¬ (G = i + 1) := by omega
  have hci : ¬ (cap = i) := by omega
  have hb3 : (i : Int) ≤ (n : Int) := by omega
  clear hfin h1N h1o h2N h2o hl1 hRl hRt hcc hold hkk hik hcs htake hg hvb
  have mixed : Tryz.prog.follows Departure.mixedOrders = true := by kernel_rfl
  go_enter Tryz.func146, Tryz.ntmps146
  have cA := hcpA (w.alloc (.cells ROW 32)).drew rfl
  have cB := hcpB ((w.alloc (.cells ROW 32)).drew.setRow w.heap.size (row2 ROW.toList (i * 5) vs).toArray).drew rfl
  go_wp2_with (at_builtin; refine Lib.wpList_append_run _ rfl _ _ _ _ rfl _ _ rfl rfl _ _ (hrz _) ?_)
  go_region_law_o (refine step_copy_runI rfl _ _ 30 30 rfl (.slice (some ⟨w.heap.size, (i + 1) * 5, none⟩) (n - i) (G - (i + 1))) (.slice (some ⟨g, i * 5, none⟩) (n - i) (cap - i)) (by simp [Act.eval, Act.put]) (by simp [Act.eval, Act.put]) (cB _ _ _) ?_)
  go_wp2
  go_ret
  exact HF.out _ rfl rfl rfl rfl

/-- One element more in a row of the call's own. -/
theorem insN {sv : Value} {tB : TypeId} (hown : w.ownsRow B 32 5 sv n xs) (hi : i ≤ n) (hvb : w.heap[vb]? = some (.cells vs.toArray tB (0, 0))) (hne : sv.ownBlock ≠ some vb) (hvl : vs.length = 5) (h1x : ∀ u ∈ xs, u.oneCell' = true) (h1v : ∀ u ∈ vs, u.oneCell' = true) (hB : B ≤ w.heap.size) (hn : n ≤ 100000000) :
    Calls Tryz.prog 146 #[sv, .int .i64 i, .slice (some ⟨vb, 0, none⟩) 1 1] w (InsPost B 32 5 sv n (xs.take (i * 5) ++ vs ++ xs.drop (i * 5)) w) := by
  by_cases hin : i = n
  · subst hin
    have hx : xs.take (i * 5) ++ vs ++ xs.drop (i * 5) = xs ++ vs := by rw [List.take_of_length_le (by rw [hown.1]; omega), List.drop_of_length_le (by rw [hown.1]; omega), List.append_nil]
    rw [hx]
    exact ins_endN hown (fun j u hj => by rw [cell_of_row _ _ _ _ _ _ hvb]; simpa using hj) hvl h1v hB hn
  · have hxl := hown.1
    rcases hown.2 with ⟨rfl, rfl⟩ | ⟨g, cap, cur, rfl, hb, hg, hnc, hcm, hcs, htake⟩
    · omega
    · by_cases hroom : n + 1 ≤ cap
      · exact ins_shiftN (kB := 0) hb hg hcm hcs hxl htake (by omega) hroom hvb (fun e => hne (by simp [Value.ownBlock, e])) hvl h1x h1v hn
      · exact ins_growN hg hcm hcs hxl htake hnc (by omega) (by omega) hvb hvl h1x h1v hB hn
end
end Go.Proofs.YtejpkjcjoengbaaGreatDoor
