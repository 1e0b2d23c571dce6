/-
  package vm: place, by walk: first what a way down the tree is.
-/
import Derived.Test.YtejpkjcjoengbaaGreatDoorVmV
import Derived.Test.YtejpkjcjoengbaaGreatDoorVmP
import Derived.Test.YtejpkjcjoengbaaGreatDoorIns
import Derived.Test.YtejpkjcjoengbaaGreatDoorBs
import Derived.Test.YtejpkjcjoengbaaGreatDoorReg
set_option linter.unusedVariables false
set_option linter.unusedSimpArgs false
namespace Go.Proofs.YtejpkjcjoengbaaGreatDoor
open Go.RowKit

def RootP (B rb : Nat) (F0 Fn : Nat → Prop) (t : Nd) (w0 w' : World) : Prop :=
  ∃ (F' : Nat → Prop) (cs : Array Value), w'.heap[rb]? = some (.cells cs 32 (0, 0)) ∧ NdO B w' t F' cs.toList ∧ (∀ k, F' k → F0 k ∨ Fn k ∨ w0.heap.size ≤ k)
def Plug (B rb : Nat) (F0 Fn : Nat → Prop) (wrap : Nd → Nd) (w0 : World) (g o : Nat) (Fc : Nat → Prop) : Prop :=
  ∀ (w' : World) (c' : Nd) (F' : Nat → Prop) (cc' : List Value), Chg w0 w' g o cc' Fc → NdO B w' c' F' cc' → (∀ k, F' k → Fc k ∨ Fn k ∨ w0.heap.size ≤ k) → RootP B rb F0 Fn (wrap c') w0 w'
theorem plug_start (B rb : Nat) (F0 Fn : Nat → Prop) {w0 : World} {cs : Array Value} (h : w0.heap[rb]? = some (.cells cs 32 (0, 0))) (hs : cs.size = 5) : Plug B rb F0 Fn (fun c => c) w0 rb 0 F0 := by
  intro w' c' F' cc' hc hn hF
  obtain ⟨arr, h1, h2⟩ := hc.here
  have : arr = cs := by
    rw [h] at h1
    injection h1 with h1
    injection h1 with h1
    exact h1.symm
  subst this
  refine ⟨F', _, h2, ?_, hF⟩
  rw [show arr.toList.take 0 ++ cc' ++ arr.toList.drop (0 + 5) = cc' by rw [List.take_zero, List.nil_append, List.drop_of_length_le (by simp; omega), List.append_nil]]
  simpa using hn
theorem plug_child {B rb : Nat} {F0 Fn Fc : Nat → Prop} {wrap : Nd → Nd} {w0 : World} {g o : Nat} {k : Int} {e : Bool} {d : List UInt8} {na : List (List UInt8)} {ns : List Nd} {cc : List Value} (hp : Plug B rb F0 Fn wrap w0 g o Fc)
    (hn : NdO B w0 (.mk k e d na ns) Fc cc) (hat : AtC w0 g o cc) (hg : ¬ Fc g) (hcF : ∀ k, Fc k → F0 k) (hFn : ∀ k, Fn k → ¬ F0 k) (hF0 : ∀ k, F0 k → k < w0.heap.size) (j : Nat) (hj : j < ns.length) :
    ∃ (g2 cap : Nat) (dv nv : Value) (Fj : Nat → Prop) (cj : List Value), cc = [.int .i64 k, .bool e, dv, nv, .slice (some ⟨g2, 0, none⟩) ns.length cap] ∧ AtC w0 g2 (j * 5) cj ∧ NdO B w0 ns[j] Fj cj ∧ ¬ Fj g2 ∧ Fc g2 ∧ (∀ k, Fj k → Fc k) ∧
      Plug B rb F0 Fn (fun c' => wrap (.mk k e d na (ns.set j c'))) w0 g2 (j * 5) Fj := by
  obtain ⟨g2, cap, dv, nv, Fj, cj, h1, h2, h3, h4, h5, h6, h7⟩ := hn.child j hj
  refine ⟨g2, cap, dv, nv, Fj, cj, h1, h2, h3, h4, h5, h6, ?_⟩
  intro w' c' F' cc' hc hn' hF'
  obtain ⟨G, i1, i2⟩ := h7 w' c' F' cc' hc hn' (fun k hk => by
    rcases hF' k hk with h | h | h
    · exact .inl h
    · exact .inr (fun e => hFn k h (hcF k e))
    · exact .inr (fun e => by have := hF0 k (hcF k e); omega))
  obtain ⟨arr, ha1, ha2, ha3⟩ := hat
  have hgl : g < w0.heap.size := (Array.getElem?_eq_some_iff.1 ha1).1
  have hgk : w'.heap[g]? = w0.heap[g]? := hc.block g hgl (fun e => hg (by rw [e]; exact h5)) (fun e => hg (h6 g e))
  refine hp w' _ G cc ⟨hc.os, hc.tape, hc.output, hc.size, fun k hk hkg hkF => hc.block k hk (fun e => hkF (by rw [e]; exact h5)) (fun e => hkF (h6 k e)), arr, ha1, ?_⟩ i1 (fun k hk => ?_)
  · rw [← ha2, take_mid, Array.toArray_toList, hgk, ha1]
  · rcases i2 k hk with h | h
    · exact .inl h
    · rcases hF' k h with h10 | h10 | h10
      · exact .inl (h6 k h10)
      · exact .inr (.inl h10)
      · exact .inr (.inr h10)
/-- The frame of a tree that was changed. -/
structure RFrame (w0 w' : World) (rb : Nat) (F0 : Nat → Prop) : Prop where
  os : w'.os = w0.os
  tape : w'.tape = w0.tape
  output : w'.output = w0.output
  size : w0.heap.size ≤ w'.heap.size
  block : ∀ k, k < w0.heap.size → k ≠ rb → ¬ F0 k → w'.heap[k]? = w0.heap[k]?
theorem RFrame.of_below {w0 w' : World} {rb : Nat} {F0 : Nat → Prop} (h : Below w0.heap.size w0 w') : RFrame w0 w' rb F0 := ⟨h.os, h.tape, h.output, h.size, fun k hk _ _ => h.block k hk⟩
def placeR (wrap : Nd → Nd) (r : Except Int Nd) : Except Int Nd := match r with | .ok t => .ok (wrap t) | .error x => .error x

/-- Where the second loop stands, ahead of a name. -/
def Down (B rb : Nat) (F0 Fn : Nat → Prop) (root : Nd) (l : List (List UInt8)) (n : Nd) (w0 : World) (k : Nat) (dp : Value) (wx : World) : Prop :=
  ∃ (cur : Nd) (g o : Nat) (Fc : Nat → Prop) (cc : List Value) (wrap : Nd → Nd), dp = .pointer (some ⟨g, o, none⟩) ∧ Below w0.heap.size w0 wx ∧ NdO B w0 cur Fc cc ∧ AtC w0 g o cc ∧ ¬ Fc g ∧ (g = rb ∨ F0 g) ∧ (∀ k, Fc k → F0 k) ∧ NdEq cur ∧ szF cur ≤ 50000000 ∧
    placeF root l n = placeR wrap (placeF cur (l.drop k) n) ∧ Plug B rb F0 Fn wrap w0 g o Fc
def Done (B rb : Nat) (F0 Fn : Nat → Prop) (root : Nd) (l : List (List UInt8)) (n : Nd) (w0 wx : World) : Prop :=
  ∃ t, placeF root l n = .ok t ∧ RFrame w0 wx rb F0 ∧ RootP B rb F0 Fn t w0 wx
def PlacePost (B rb : Nat) (F0 Fn : Nat → Prop) (r : Except Int Nd) (w : World) (x : Ending) (w' : World) : Prop :=
  RFrame w w' rb F0 ∧ match r with
    | .error e => x = .returned (faultV e)
    | .ok t => x = .returned .nilIface ∧ RootP B rb F0 Fn t w w'

theorem strOne (l : List (List UInt8)) : ∀ u ∈ strCells l, u.oneCell' = true := by
  intro u hu
  obtain ⟨x, _, rfl⟩ := List.mem_map.1 hu
  rfl
theorem AtC.cells {w : World} {g o : Nat} {a b c d e : Value} (h : AtC w g o [a, b, c, d, e]) {w' : World} (hk : w'.heap[g]? = w.heap[g]?) :
    w'.cell? ⟨g, o, none⟩ = some a ∧ w'.cell? ⟨g, o + 1, none⟩ = some b ∧ w'.cell? ⟨g, o + 2, none⟩ = some c ∧ w'.cell? ⟨g, o + 3, none⟩ = some d ∧ w'.cell? ⟨g, o + 4, none⟩ = some e ∧ (∀ j, w'.frozen? ⟨g, j, none⟩ = false) := by
  obtain ⟨arr, h1, h2, h3⟩ := h
  have hw := hk.trans h1
  have hat : ∀ j (x : Value), [a, b, c, d, e][j]? = some x → w'.cell? ⟨g, o + j, none⟩ = some x := by
    intro j x hx
    rw [cell_of_row _ _ _ _ _ _ hw]
    rw [← h2, List.getElem?_take] at hx
    split at hx
    · rw [List.getElem?_drop] at hx
      simpa using hx
    · cases hx
  exact ⟨hat 0 a rfl, hat 1 b rfl, hat 2 c rfl, hat 3 d rfl, hat 4 e rfl, fun j => by simp [World.frozen?, hw]⟩
theorem AtC.lt {w : World} {g o : Nat} {cc : List Value} (h : AtC w g o cc) : g < w.heap.size := by
  obtain ⟨arr, h1, _⟩ := h
  exact (Array.getElem?_eq_some_iff.1 h1).1

theorem right_name_call (s : List UInt8) (hs : s.length ≤ 65536) (wr : World) :
    Calls Tryz.prog 15 #[.agg #[.int .i64 2, .bool false, .slice none 0 0, .slice (some ⟨wr.heap.size, 0, none⟩) 1 1, .slice (some ⟨wr.heap.size + 1, 0, none⟩) 1 1]]
      ((wr.alloc (.cells #[.string (bs s)] 9)).alloc (.cells #[.int .i64 2, .bool false, .slice none 0 0, .slice none 0 0, .slice none 0 0] 32)) fun x w' => x = .returned (.int .i64 (rightF (nameNd s))) ∧ Below wr.heap.size wr w' := by
  have h1 : ((wr.alloc (.cells #[.string (bs s)] 9)).alloc (.cells #[.int .i64 2, .bool false, .slice none 0 0, .slice none 0 0, .slice none 0 0] 32)).heap[wr.heap.size]? = some (.cells #[.string (bs s)] 9 (0, 0)) := (Below.heap_alloc _ _ _ (by simp)).trans (heap_alloc_new wr _)
  have h2 : ((wr.alloc (.cells #[.string (bs s)] 9)).alloc (.cells #[.int .i64 2, .bool false, .slice none 0 0, .slice none 0 0, .slice none 0 0] 32)).heap[wr.heap.size + 1]? = some (.cells #[.int .i64 2, .bool false, .slice none 0 0, .slice none 0 0, .slice none 0 0] 32 (0, 0)) := by
    have := heap_alloc_new (wr.alloc (.cells #[.string (bs s)] 9)) (.cells #[.int .i64 2, .bool false, .slice none 0 0, .slice none 0 0, .slice none 0 0] 32)
    simpa using this
  have hb : Below wr.heap.size wr ((wr.alloc (.cells #[.string (bs s)] 9)).alloc (.cells #[.int .i64 2, .bool false, .slice none 0 0, .slice none 0 0, .slice none 0 0] 32)) := ((Below.refl _ _).alloc (Nat.le_refl _) _).alloc (by simp) _
  have hsz : ((wr.alloc (.cells #[.string (bs s)] 9)).alloc (.cells #[.int .i64 2, .bool false, .slice none 0 0, .slice none 0 0, .slice none 0 0] 32)).heap.size = wr.heap.size + 2 := by simp
  generalize (wr.alloc (.cells #[.string (bs s)] 9)).alloc (.cells #[.int .i64 2, .bool false, .slice none 0 0, .slice none 0 0, .slice none 0 0] 32) = W at *
  have hN : NdIs (fun k => k < W.heap.size) W (nameNd s) [.int .i64 2, .bool false, .slice none 0 0, .slice (some ⟨wr.heap.size, 0, none⟩) 1 1, .slice (some ⟨wr.heap.size + 1, 0, none⟩) 1 1] := by
    unfold nameNd emptyDir
    simp only [NdIs]
    refine ⟨_, _, _, rfl, SliceIs.nil _ _ _, ⟨by simp [maxLen], _, _, rfl, fun _ => ⟨wr.heap.size, 0, rfl, by show wr.heap.size < _; omega, by simp, fun j x hx => ?_⟩⟩, [.int .i64 2, .bool false, .slice none 0 0, .slice none 0 0, .slice none 0 0], ⟨by simp [maxLen], _, _, rfl, fun _ => ⟨wr.heap.size + 1, 0, rfl, by show wr.heap.size + 1 < _; omega, by simp, fun j x hx => ?_⟩⟩, ?_⟩
    · rw [cell_of_row _ _ _ _ _ _ h1]; simpa using hx
    · rw [cell_of_row _ _ _ _ _ _ h2]; simpa using hx
    · simp only [NdsIs, NdIs]
      exact ⟨_, [], (List.append_nil _).symm, ⟨_, _, _, rfl, SliceIs.nil _ _ _, SliceIs.nil _ _ _, [], SliceIs.nil _ _ _, rfl⟩, rfl⟩
  refine (tree_Right (nameNd s) hN (nameNd_ok s (by omega)) (fun k hk => hk)).mono fun x w' h => ?_
  obtain ⟨rfl, h⟩ := h
  exact ⟨rfl, hb.trans (h.mono hb.size)⟩

/-- A row of the call's own has turned, and what is new. -/
structure Ins1 (w w' : World) (v v' : Value) : Prop where
  os : w'.os = w.os
  tape : w'.tape = w.tape
  output : w'.output = w.output
  size : w.heap.size ≤ w'.heap.size
  block : ∀ k, k < w.heap.size → v.ownBlock ≠ some k → w'.heap[k]? = w.heap[k]?
  fresh : ∀ k, v'.ownBlock = some k → v.ownBlock = some k ∨ w.heap.size ≤ k
/-- W is w, and some more blocks. -/
structure More (w W : World) : Prop where
  os : W.os = w.os
  tape : W.tape = w.tape
  output : W.output = w.output
  size : w.heap.size ≤ W.heap.size
  block : ∀ k, k < w.heap.size → W.heap[k]? = w.heap[k]?
theorem More.refl (w : World) : More w w := ⟨rfl, rfl, rfl, Nat.le_refl _, fun _ _ => rfl⟩
theorem More.drew {w W : World} (h : More w W) : More w W.drew := ⟨h.os, h.tape, h.output, h.size, h.block⟩
theorem More.alloc {w W : World} (h : More w W) (o : Obj) : More w (W.alloc o) := ⟨h.os, h.tape, h.output, Nat.le_trans h.size (by simp), fun k hk => (Below.heap_alloc _ _ _ (Nat.lt_of_lt_of_le hk h.size)).trans (h.block k hk)⟩
def InsAt (B : Nat) (e : TypeId) (sz n : Nat) (sv : Value) (xs' : List Value) (w W : World) (x : Ending) (w' : World) : Prop :=
  ∃ A c, x = .returned (.slice A (n + 1) c) ∧ w'.ownsRow B e sz (.slice A (n + 1) c) (n + 1) xs' ∧ Ins1 w w' sv (.slice A (n + 1) c) ∧ (∀ k, k < W.heap.size → sv.ownBlock ≠ some k → w'.heap[k]? = W.heap[k]?) ∧ W.heap.size ≤ w'.heap.size
theorem InsAt.of {B : Nat} {e : TypeId} {sz n : Nat} {sv : Value} {xs' : List Value} {w W w' : World} {x : Ending} (hm : More w W) (h : InsPost B e sz sv n xs' W x w') : InsAt B e sz n sv xs' w W x w' := by
  obtain ⟨sv', rfl, h1, h2, h3⟩ := h
  obtain ⟨A, c, rfl⟩ := own_slice h1
  refine ⟨A, c, rfl, h1, ⟨h2.os.trans hm.os, h2.tape.trans hm.tape, h2.output.trans hm.output, Nat.le_trans hm.size h2.size, fun k hk hne => (h2.block k (Nat.lt_of_lt_of_le hk hm.size) (fun e => hne e.symm)).trans (hm.block k hk), fun k hk => ?_⟩, fun k hk hne => h2.block k hk (fun e => hne e.symm), h2.size⟩
  rcases h3 k hk with h4 | h4
  · exact .inl h4
  · exact .inr (Nat.le_trans hm.size h4)
theorem insS_at {B n i vb : Nat} {w W : World} {sv : Value} {xs : List Value} {s : ByteArray} (hm : More w W) (hown : w.ownsRow B 9 1 sv n xs) (hi : i ≤ n) (hvb : W.heap[vb]? = some (.cells #[.string s] 9 (0, 0))) (hne : w.heap.size ≤ vb) (h1x : ∀ u ∈ xs, u.oneCell' = true) (hB : B ≤ w.heap.size) (hn : n ≤ 100000000) :
    Calls Tryz.prog 145 #[sv, .int .i64 i, .slice (some ⟨vb, 0, none⟩) 1 1] W (InsAt B 9 1 n sv (xs.take i ++ [.string s] ++ xs.drop i) w W) :=
  (insS (vs := [.string s]) (tB := 9) (ownsRow_of_block hown (fun k hk => hm.block k (hown.lt k hk).2)) hi hvb (fun e => by have := (hown.lt _ e).2; omega) rfl h1x (fun u hu => by simp at hu; subst hu; rfl) (Nat.le_trans hB hm.size) hn).mono fun x w' h => InsAt.of hm h
theorem insN_at {B n i vb : Nat} {w W : World} {sv : Value} {xs : List Value} {cs : Array Value} (hm : More w W) (hown : w.ownsRow B 32 5 sv n xs) (hi : i ≤ n) (hvb : W.heap[vb]? = some (.cells cs 32 (0, 0))) (hne : sv.ownBlock ≠ some vb) (hcs : cs.size = 5) (h1v : ∀ u ∈ cs.toList, u.oneCell' = true) (h1x : ∀ u ∈ xs, u.oneCell' = true) (hB : B ≤ w.heap.size) (hn : n ≤ 100000000) :
    Calls Tryz.prog 146 #[sv, .int .i64 i, .slice (some ⟨vb, 0, none⟩) 1 1] W (InsAt B 32 5 n sv (xs.take (i * 5) ++ cs.toList ++ xs.drop (i * 5)) w W) :=
  (insN (vs := cs.toList) (tB := 32) (ownsRow_of_block hown (fun k hk => hm.block k (hown.lt k hk).2)) hi (by rw [Array.toArray_toList]; exact hvb) hne (by simpa using hcs) h1x h1v (Nat.le_trans hB hm.size) hn).mono fun x w' h => InsAt.of hm h
theorem new2_fst (w : World) (o1 o2 : Obj) : ((w.alloc o1).alloc o2).heap[w.heap.size]? = some o1 := (Below.heap_alloc _ _ _ (by simp)).trans (heap_alloc_new w o1)
theorem new2_snd (w : World) (o1 o2 : Obj) : ((w.alloc o1).alloc o2).heap[w.heap.size + 1]? = some o2 := by
  have := heap_alloc_new (w.alloc o1) o2
  simpa using this
theorem Ins1.cell {w w' : World} {v v' : Value} (h : Ins1 w w' v v') {k j : Nat} {x : Value} (hk : k < w.heap.size) (hne : v.ownBlock ≠ some k) (hx : w.cell? ⟨k, j, none⟩ = some x) : w'.cell? ⟨k, j, none⟩ = some x := (World.cell?_of_block (h.block k hk hne)).trans hx

/-- The end of place: a name and a node more. -/
theorem place_end {B rb : Nat} {F0 Fn Fc : Nat → Prop} {root n : Nd} {l : List (List UInt8)} {w w3 w4 w5 w6 : World} {g o : Nat} {ce : Bool} {cd : List UInt8} {cna : List (List UInt8)} {cns : List Nd} {dv nv sv nv1 sv1 : Value} {wrap : Nd → Nd} {ccs cn : List Value} {lk : List UInt8} {j : Nat}
    (hbw : Below w.heap.size w w3) (hi1 : Ins1 w3 w4 nv nv1) (ho1 : w4.ownsRow B 9 1 nv1 (cna.length + 1) ((strCells cna).take j ++ [.string (bs lk)] ++ (strCells cna).drop j))
    (hi2 : Ins1 w4 w5 sv sv1) (ho2 : w5.ownsRow B 32 5 sv1 (cns.length + 1) (ccs.take (j * 5) ++ cn ++ ccs.drop (j * 5)))
    (hat : AtC w g o [.int .i64 2, .bool ce, dv, nv, sv]) (hgF : ¬ Fc g) (hgr : g = rb ∨ F0 g) (hcF : ∀ k, Fc k → F0 k) (hF0 : ∀ k, F0 k → k < w.heap.size)
    (hn : NdO B w n Fn cn) (hFn : ∀ k, Fn k → ¬ F0 k ∧ k ≠ rb) (hnvF : ∀ k, nv.ownBlock = some k → Fc k ∧ sv.ownBlock ≠ some k) (hsvF : ∀ k, sv.ownBlock = some k → Fc k)
    (hins : ∀ (w' : World) (nv' sv' : Value) (na' : List (List UInt8)) (j : Nat) (n' : Nd) (F' : Nat → Prop) (c' : List Value), j ≤ cns.length → w.heap.size ≤ w'.heap.size → (∀ k, Fc k → nv.ownBlock ≠ some k → sv.ownBlock ≠ some k → w'.heap[k]? = w.heap[k]?) → NdO B w' n' F' c' → (∀ k, F' k → ¬ Fc k ∧ nv'.ownBlock ≠ some k ∧ sv'.ownBlock ≠ some k) →
        w'.ownsRow B 9 1 nv' na'.length (strCells na') → w'.ownsRow B 32 5 sv' (cns.length + 1) (ccs.take (j * 5) ++ c' ++ ccs.drop (j * 5)) → (∀ k, nv'.ownBlock = some k → (nv.ownBlock = some k ∨ ¬ Fc k) ∧ sv'.ownBlock ≠ some k) → (∀ k, sv'.ownBlock = some k → sv.ownBlock = some k ∨ ¬ Fc k) →
        ∃ G : Nat → Prop, NdO B w' (.mk 2 ce cd na' (cns.take j ++ [n'] ++ cns.drop j)) G [.int .i64 2, .bool ce, dv, nv', sv'] ∧ (∀ k, G k → Fc k ∨ F' k ∨ nv'.ownBlock = some k ∨ sv'.ownBlock = some k))
    (hplug : Plug B rb F0 Fn wrap w g o Fc) (hj : j ≤ cns.length) (hcl : cna.length = cns.length)
    (hpl : placeF root l n = .ok (wrap (.mk 2 ce cd (cna.take j ++ [lk] ++ cna.drop j) (cns.take j ++ [n] ++ cns.drop j))))
    (hw6 : w6 = (w5.setCell ⟨g, o + 3, none⟩ nv1).setCell ⟨g, o + 4, none⟩ sv1) : Done B rb F0 Fn root l n w w6 := by
  have hgl := hat.lt
  have hs3 := hbw.size
  have hs4 := hi1.size
  have hs5 := hi2.size
  have hgnv : nv.ownBlock ≠ some g := fun e => hgF (hnvF g e).1
  have hgsv : sv.ownBlock ≠ some g := fun e => hgF (hsvF g e)
  have hs6 : w6.heap.size = w5.heap.size := by rw [hw6]; simp [World.setCell]
  have h6 : ∀ k, k ≠ g → w6.heap[k]? = w5.heap[k]? := fun k hk => by rw [hw6]; exact (Below.heap_setCell _ _ _ _ hk).trans (Below.heap_setCell _ _ _ _ hk)
  have hblk : ∀ k, k < w.heap.size → nv.ownBlock ≠ some k → sv.ownBlock ≠ some k → k ≠ g → w6.heap[k]? = w.heap[k]? := fun k hk h1 h2 h3 =>
    (h6 k h3).trans ((hi2.block k (by omega) h2).trans ((hi1.block k (by omega) h1).trans (hbw.block k hk)))
  have hFnk : ∀ k, Fn k → ¬ Fc k ∧ k ≠ g := fun k hk => ⟨fun e => (hFn k hk).1 (hcF k e), fun e => by
    subst e
    rcases hgr with h | h
    · exact (hFn _ hk).2 h
    · exact (hFn _ hk).1 h⟩
  have hn6 : NdO B w6 n Fn cn := hn.kept (by omega) (fun k hk => hblk k (hn.lt k hk).2 (fun e => (hFnk k hk).1 (hnvF k e).1) (fun e => (hFnk k hk).1 (hsvF k e)) (hFnk k hk).2)
  have hg5 : w5.heap[g]? = w.heap[g]? := (hi2.block g (by omega) hgsv).trans ((hi1.block g (by omega) hgnv).trans (hbw.block g hgl))
  have hf1 : ∀ k, nv1.ownBlock = some k → nv.ownBlock = some k ∨ w.heap.size ≤ k := fun k hk => by
    rcases hi1.fresh k hk with h | h
    · exact .inl h
    · exact .inr (by omega)
  have hf2 : ∀ k, sv1.ownBlock = some k → sv.ownBlock = some k ∨ w4.heap.size ≤ k := hi2.fresh
  have hl1 : ∀ k, nv1.ownBlock = some k → k < w4.heap.size := fun k hk => (ho1.lt k hk).2
  have hd12 : ∀ k, nv1.ownBlock = some k → sv1.ownBlock ≠ some k := fun k hk e => by
    rcases hf2 k e with h | h
    · rcases hi1.fresh k hk with h2 | h2
      · exact (hnvF k h2).2 h
      · have := hF0 k (hcF k (hsvF k h)); omega
    · have := hl1 k hk; omega
  have ho1' : w6.ownsRow B 9 1 nv1 (cna.take j ++ [lk] ++ cna.drop j).length (strCells (cna.take j ++ [lk] ++ cna.drop j)) := by
    have e1 : (cna.take j ++ [lk] ++ cna.drop j).length = cna.length + 1 := by simp; omega
    have e2 : strCells (cna.take j ++ [lk] ++ cna.drop j) = (strCells cna).take j ++ [.string (bs lk)] ++ (strCells cna).drop j := by simp [strCells, List.map_take, List.map_drop]
    rw [e1, e2]
    refine ownsRow_of_block ho1 (fun k hk => ?_)
    have hkg : k ≠ g := fun e => by
      subst e
      rcases hf1 _ hk with h | h
      · exact hgnv h
      · omega
    refine (h6 k hkg).trans (hi2.block k (hl1 k hk) (fun e => ?_))
    rcases hi1.fresh k hk with h2 | h2
    · exact (hnvF k h2).2 e
    · have := hF0 k (hcF k (hsvF k e)); omega
  have ho2' : w6.ownsRow B 32 5 sv1 (cns.length + 1) (ccs.take (j * 5) ++ cn ++ ccs.drop (j * 5)) := ownsRow_of_block ho2 (fun k hk => h6 k (fun e => by
    subst e
    rcases hf2 _ hk with h | h
    · exact hgsv h
    · omega))
  obtain ⟨G, hG, hGF⟩ := hins w6 nv1 sv1 _ j n Fn cn hj (by omega) (fun k hk h1 h2 => hblk k (hF0 k (hcF k hk)) h1 h2 (fun e => hgF (by rw [← e]; exact hk))) hn6
    (fun k hk => ⟨(hFnk k hk).1, fun e => by
      rcases hf1 k e with h | h
      · exact (hFnk k hk).1 (hnvF k h).1
      · have := (hn.lt k hk).2; omega, fun e => by
      rcases hf2 k e with h | h
      · exact (hFnk k hk).1 (hsvF k h)
      · have := (hn.lt k hk).2; omega⟩) ho1' ho2'
    (fun k hk => ⟨by
      rcases hf1 k hk with h | h
      · exact .inl h
      · exact .inr (fun e => by have := hF0 k (hcF k e); omega), hd12 k hk⟩)
    (fun k hk => by
      rcases hf2 k hk with h | h
      · exact .inl h
      · exact .inr (fun e => by have := hF0 k (hcF k e); omega))
  have hos : w6.os = w.os := by rw [hw6]; exact hi2.os.trans (hi1.os.trans hbw.os)
  have hta : w6.tape = w.tape := by rw [hw6]; exact hi2.tape.trans (hi1.tape.trans hbw.tape)
  have hou : w6.output = w.output := by rw [hw6]; exact hi2.output.trans (hi1.output.trans hbw.output)
  refine ⟨_, hpl, ⟨hos, hta, hou, by omega, fun k hk h1 h2 => hblk k hk (fun e => h2 (hcF k (hnvF k e).1)) (fun e => h2 (hcF k (hsvF k e))) (fun e => by
    subst e
    rcases hgr with h | h
    · exact h1 h
    · exact h2 h)⟩, ?_⟩
  obtain ⟨arr, ha1, ha2, ha3⟩ := hat
  refine hplug w6 _ G _ ⟨hos, hta, hou, by omega, fun k hk h1 h2 => hblk k hk (fun e => h2 (hnvF k e).1) (fun e => h2 (hsvF k e)) h1, arr, ha1, ?_⟩ hG (fun k hk => ?_)
  · have hw5 : w5.heap[g]? = some (.cells arr 32 (0, 0)) := hg5.trans ha1
    have h5a : (w5.setCell ⟨g, o + 3, none⟩ nv1).heap[g]? = some (.cells (arr.setIfInBounds (o + 3) nv1) 32 (0, 0)) := set_same hw5 rfl
    rw [hw6, set_same h5a rfl]
    congr 2
    apply Array.ext'
    have hsp : arr.toList = arr.toList.take o ++ [.int .i64 2, .bool ce, dv, nv, sv] ++ arr.toList.drop (o + 5) := by rw [← ha2, take_mid]
    have hA : (arr.toList.take o).length = o := by rw [List.length_take]; simp; omega
    simp only [Array.toList_setIfInBounds]
    conv => lhs; rw [hsp]
    generalize arr.toList.take o = A at *
    generalize arr.toList.drop (o + 5) = Z at *
    have e1 : A ++ [Value.int .i64 2, .bool ce, dv, nv, sv] ++ Z = A ++ ([Value.int .i64 2, .bool ce, dv, nv, sv] ++ Z) := List.append_assoc _ _ _
    rw [e1, List.set_append_right _ _ (by omega), List.set_append_right _ _ (by omega), hA, Nat.add_sub_cancel_left, Nat.add_sub_cancel_left]
    simp
  · rcases hGF k hk with h | h | h | h
    · exact .inl h
    · exact .inr (.inl h)
    · rcases hf1 k h with h2 | h2
      · exact .inl (hnvF k h2).1
      · exact .inr (.inr h2)
    · rcases hf2 k h with h2 | h2
      · exact .inl (hsvF k h2)
      · exact .inr (.inr (by omega))

set_option maxHeartbeats 4000000 in
set_option maxRecDepth 100000 in
theorem vm_place {B rb nb : Nat} {F0 Fn : Nat → Prop} {root : Nd} {cs : Array Value} {l : List (List UInt8)} {c : Nat} {n : Nd} {cn : List Value} {w : World}
    (hroot : w.heap[rb]? = some (.cells cs 32 (0, 0))) (hNd : NdO B w root F0 cs.toList) (hrb : ¬ F0 rb) (hB : B ≤ w.heap.size) (hEq : NdEq root) (hsz : szF root ≤ 50000000)
    (hl : ∀ j x, (strCells l)[j]? = some x → w.cell? ⟨nb, j, none⟩ = some x) (hnb : nb < w.heap.size ∧ nb ≠ rb ∧ ¬ F0 nb) (hl0 : 0 < l.length) (hll : l.length ≤ 1000000) (hlx : ∀ x ∈ l, x.length ≤ 65536)
    (hn : NdO B w n Fn cn) (hFn : ∀ k, Fn k → ¬ F0 k ∧ k ≠ rb) :
    Calls Tryz.prog 120 #[.pointer (some ⟨rb, 0, none⟩), .slice (some ⟨nb, 0, none⟩) l.length c, .agg cn.toArray] w (PlacePost B rb F0 Fn (if l.all (fun x => rightF (nameNd x) == 0) = false then .error 17 else placeF root l n) w) := by
  obtain ⟨res, hres⟩ : ∃ res, res = (if l.all (fun x => rightF (nameNd x) == 0) = false then .error 17 else placeF root l n) := ⟨_, rfl⟩
  rw [← hres]
  have HRS := Lib.hid hres
  clear hres
  obtain ⟨dA, dc, nA, nc, sA, sc, rfl, _⟩ := hn.is.cells
  have hb0 : Below w.heap.size w (w.alloc (.cells #[.int .i64 n.kind, .bool n.exec, .slice dA n.data.length dc, .slice nA n.names.length nc, .slice sA n.nodes.length sc] 32)) := (Below.refl _ _).alloc (Nat.le_refl _) _
  have hbx := heap_alloc_new w (.cells #[.int .i64 n.kind, .bool n.exec, .slice dA n.data.length dc, .slice nA n.names.length nc, .slice sA n.nodes.length sc] 32)
  generalize n.kind = kN at *
  generalize n.exec = eN at *
  generalize n.data.length = dN at *
  generalize n.names.length = nN at *
  generalize n.nodes.length = sN at *
  go_enter Tryz.func120, Tryz.ntmps120
  go_wp2
  go_loopw [16] (fun i wr => ∃ k : Nat, k ≤ l.length ∧ i = .int .i64 k ∧ (l.take k).all (fun x => rightF (nameNd x) == 0) = true ∧ Below w.heap.size w wr ∧ wr.heap[w.heap.size]? = some (.cells #[.int .i64 kN, .bool eN, .slice dA dN dc, .slice nA nN nc, .slice sA sN sc] 32 (0, 0))) (fun i wr => l.length - (intOf i).toNat)
  case atStart => exact ⟨0, Nat.zero_le _, rfl, rfl, hb0, hbx⟩
  case round =>
    obtain ⟨k, hk, rfl, hall, hbr, hbxr⟩ := hrel
    by_cases hlt : k < l.length
    · have c0 := (hbr.cell (p := ⟨nb, k, none⟩) hnb.1).trans (hl k _ (strCells_at l k hlt))
      have hlk := hlx l[k] (List.getElem_mem hlt)
      have htk : (l.take (k + 1)).all (fun x => rightF (nameNd x) == 0) = ((l.take k).all (fun x => rightF (nameNd x) == 0) && (rightF (nameNd l[k]) == 0)) := by rw [List.take_succ_eq_append_getElem hlt, List.all_append]; simp
      have HT := Lib.hid htk
      have HA := Lib.hid hall
      have HBX := Lib.hid hbxr
      clear htk hall hbxr
      have hcall := right_name_call l[k] hlk wr
      by_cases hr : rightF (nameNd l[k]) = 0
      · have hall2 : (l.take (k + 1)).all (fun x => rightF (nameNd x) == 0) = true := by rw [HT.out, HA.out, hr]; rfl
        rw [hr] at hcall
        have HA2 := Lib.hid hall2
        clear hall2
        generalize l[k] = lk at *
        go_wp2_with (go_at_call 15; refine hcall.mono ?_)
        first | rintro e w2 rfl hb2 | rintro e w2 ⟨rfl, hb2⟩
        have hb3 := hbr.trans (hb2.mono hbr.size)
        have hbx3 := (hb2.block w.heap.size (Array.getElem?_eq_some_iff.1 HBX.out).1).trans HBX.out
        have HB3 := Lib.hid hbx3
        clear hbx3
        go_wp2
        go_roundw
        case rel => exact ⟨k + 1, by omega, by go_num, HA2.out, hb3, HB3.out⟩
        case measure => simp [intOf]; omega
      · have q : (rightF (nameNd l[k]) != 0) = true := by simpa using hr
        have hno : l.all (fun x => rightF (nameNd x) == 0) = false := by
          rw [List.all_eq_false]
          exact ⟨l[k], List.getElem_mem hlt, by simpa using hr⟩
        have hres : res = .error 17 := by rw [HRS.out, if_pos hno]
        subst hres
        generalize rightF (nameNd l[k]) = r at *
        generalize l[k] = lk at *
        go_wp2_with (go_at_call 15; refine hcall.mono ?_)
        first | rintro e w2 rfl hb2 | rintro e w2 ⟨rfl, hb2⟩
        have hb3 := hbr.trans (hb2.mono hbr.size)
        go_wp2
        go_ret
        exact ⟨RFrame.of_below hb3, rfl⟩
    · obtain rfl : k = l.length := by omega
      have hall2 : ¬ l.all (fun x => rightF (nameNd x) == 0) = false := by rw [List.take_length] at hall; rw [hall]; decide
      have hres : res = placeF root l n := by rw [HRS.out, if_neg hall2]
      subst hres
      clear hall2 hall
      have HBX := Lib.hid hbxr
      clear hbxr
      go_wp2
      go_loopw [0, 32] (fun dp i wx => ∃ k : Nat, i = .int .i64 k ∧ wx.heap[w.heap.size]? = some (.cells #[.int .i64 kN, .bool eN, .slice dA dN dc, .slice nA nN nc, .slice sA sN sc] 32 (0, 0)) ∧
        ((k < l.length ∧ Down B rb F0 Fn root l n w k dp wx) ∨ (k = l.length ∧ Done B rb F0 Fn root l n w wx))) (fun dp i wx => l.length - (intOf i).toNat)
      case atStart =>
        refine ⟨0, rfl, HBX.out, .inl ⟨hl0, root, rb, 0, F0, cs.toList, fun c => c, rfl, hbr, hNd, ⟨cs, hroot, ?_, ?_⟩, hrb, .inl rfl, fun k hk => hk, hEq, hsz, ?_, plug_start B rb F0 Fn hroot (by have := hNd.length; simpa using this)⟩⟩
        · rw [List.drop_zero, List.take_of_length_le (by rw [hNd.length]; omega)]
        · have := hNd.length
          simp at this
          omega
        · rw [List.drop_zero]; cases placeF root l n <;> rfl
      case round =>
        obtain ⟨k, rfl, hbx2, hDD⟩ := hrel
        rcases hDD with ⟨hlt, hdn⟩ | ⟨rfl, hdone⟩
        · obtain ⟨cur, g, o, Fc, cc, wrap, rfl, hbw, hcN, hat, hgF, hgr, hcF, hcE, hcs, hpl, hplug⟩ := hdn
          have c0 := (hbw.cell (p := ⟨nb, k, none⟩) hnb.1).trans (hl k _ (strCells_at l k hlt))
          have hdrop := List.drop_eq_getElem_cons hlt
          rw [hdrop] at hpl
          generalize hlk : l[k] = lk at *
          cases cur with
          | mk ck ce cd cna cns =>
            have hparts := hcN.parts
            obtain ⟨dv, nv, sv, ccs, rfl, hnv, hsv, hone, hnvF, hsvF, hins⟩ := hparts
            obtain ⟨p0, p1, p2, p3, p4, pf⟩ := hat.cells (hbw.block g hat.lt)
            by_cases hck : ck = 2
            · subst hck
              simp only [NdEq] at hcE
              obtain ⟨hcE1, hcE2, hcE3⟩ := hcE
              have hnsz := szsF_len cns
              simp only [szF] at hcs
              have hS : SliceIs (fun j => j < w.heap.size) 1 nv cna.length (strCells cna) wr := (ownsRow_slice hnv (fun k hk => (hnv.lt k hk).2)).kept (fun k hk => hbw.block k hk)
              have hbs := bs_call (w := wr) lk hS (by omega)
              have haf := atF_le cna lk
              have hthl : thereB cna lk = true → atF cna lk < cna.length := thereB_lt
              have hplF : placeF (.mk 2 ce cd cna cns) (lk :: l.drop (k + 1)) n = if l.drop (k + 1) = [] then (if thereB cna lk = true then .error 13 else .ok (.mk 2 ce cd (cna.take (atF cna lk) ++ [lk] ++ cna.drop (atF cna lk)) (cns.take (atF cna lk) ++ [n] ++ cns.drop (atF cna lk))))
                else if thereB cna lk = false then .error 14
                else match cns[atF cna lk]? with
                  | none => .error 0
                  | some c => match placeF c (l.drop (k + 1)) n with
                    | .ok c' => .ok (.mk 2 ce cd cna (cns.set (atF cna lk) c'))
                    | .error x => .error x := by rw [placeF, if_neg (by decide)]; rfl
              generalize atF cna lk = j at *
              generalize thereB cna lk = th at *
              have HE1 := Lib.hid hcE1
              have hcE1' : cna.length ≤ cns.length ∧ cns.length ≤ cna.length := by omega
              clear hcE1
              have HPF := Lib.hid hplF
              have HPL := Lib.hid hpl
              have HIN := Lib.hid hins
              have HPG := Lib.hid hplug
              have HON := Lib.hid hone
              have HNF := Lib.hid hnvF
              have HSF := Lib.hid hsvF
              clear hplF hpl hins hplug hone hnvF hsvF hdrop
              by_cases hlast : k + 1 = l.length
              · have hd0 : l.drop (k + 1) = [] := List.drop_of_length_le (by omega)
                have q1 : ((k : Int) == (l.length : Int) - 1) = true := by rw [beq_iff_eq]; omega
                have HD0 := Lib.hid hd0
                clear hd0
                cases th with
                | true =>
                  have hres : placeF root l n = .error 13 := by rw [HPL.out, HPF.out, if_pos HD0.out, if_pos rfl]; rfl
                  rw [hres]
                  have HF := Lib.hid (RFrame.of_below (rb := rb) (F0 := F0) hbw)
                  clear hres
                  go_wp2_with (go_at_call 144; refine hbs.mono ?_)
                  rintro e w2 rfl q rfl
                  go_wp2
                  go_ret
                  exact ⟨⟨HF.out.os, HF.out.tape, HF.out.output, HF.out.size, HF.out.block⟩, rfl⟩
                | false =>
                  have hres : placeF root l n = .ok (wrap (.mk 2 ce cd (cna.take j ++ [lk] ++ cna.drop j) (cns.take j ++ [n] ++ cns.drop j))) := by rw [HPL.out, HPF.out, if_pos HD0.out, if_neg (by decide)]; rfl
                  have HRE := Lib.hid hres
                  clear hres
                  go_wp2_with (go_at_call 144; refine hbs.mono ?_)
                  rintro e w2 rfl q rfl
                  go_wp2
                  have hb3 : Below w.heap.size w (wr.drewN q) := ⟨hbw.os, hbw.tape, hbw.output, hbw.size, hbw.block⟩
                  have hbx3 : (wr.drewN q).heap[w.heap.size]? = _ := hbx2
                  clear hbx2 hbw p0 p1 p2 p3 p4 pf c0 hbs hS hthl
                  generalize wr.drewN q = w3 at *
                  obtain ⟨arr, ha1, ha2, ha3⟩ := id hat
                  have hg3 : g < w3.heap.size := Nat.lt_of_lt_of_le hat.lt hb3.size
                  have hgx := (hb3.block g hat.lt).trans ha1
                  have hcg : ∀ W : World, W.heap[g]? = some (.cells arr 32 (0, 0)) → _ := fun W hW => hat.cells (w' := W) (hW.trans ha1.symm)
                  have hnv3 := ownsRow_of_block hnv (fun k hk => hb3.block k (hnv.lt k hk).2)
                  have hsv3 := ownsRow_of_block hsv (fun k hk => hb3.block k (hsv.lt k hk).2)
                  have hxs : w.heap.size < w3.heap.size := (Array.getElem?_eq_some_iff.1 hbx3).1
                  have hgnv : nv.ownBlock ≠ some g := fun e => hgF (HNF.out g e).1
                  have hgsv : sv.ownBlock ≠ some g := fun e => hgF (HSF.out g e)
                  have hxnv : nv.ownBlock ≠ some w.heap.size := fun e => by have := (hnv.lt _ e).2; omega
                  have hxsv : sv.ownBlock ≠ some w.heap.size := fun e => by have := (hsv.lt _ e).2; omega
                  have hgx0 : g ≠ w.heap.size := by have := hat.lt; omega
                  obtain ⟨nA1, nc1, rfl⟩ := own_slice hnv
                  obtain ⟨sA1, sc1, rfl⟩ := own_slice hsv
                  have hone1 := hn.one
                  have hB3 : B ≤ w3.heap.size := by omega
                  have hsO := fun (k : Nat) (hk : (Value.slice sA1 cns.length sc1).ownBlock = some k) => (hsv3.lt k hk).2
                  have mixed : Tryz.prog.follows Departure.mixedOrders = true := by kernel_rfl
                  refine wp_region_T (fun j W => j ∈ [0, 1, 2, 3, 4, 6, 7, 10, 11, 12, 14] ∨ (W.heap[w.heap.size]? = some (.cells #[.int .i64 kN, .bool eN, .slice dA dN dc, .slice nA nN nc, .slice sA sN sc] 32 (0, 0)) ∧ (j ∈ [15, 18, 19, 20, 21, 22, 23] ∨ W.heap[g]? = some (.cells arr 32 (0, 0))))) mixed ?_
                  refine wpAnyT_takes [] (C := fun _ => True) (i := 0) (v := _) rfl rfl (by kernel_rfl) (by kernel_rfl) (by kernel_rfl) (by kernel_rfl) (fun _ _ _ h => h) (fun _ _ _ _ => trivial) (fun _ _ => .inl (by decide)) trivial (Or.inl ⟨by rfl, fun W _ => by first | (go_simp; done) | (go_simp; with_reducible rfl)⟩) ?_
                  simp only [Act.put, List.setIfInBounds_toArray, List.set_cons_zero, List.set_cons_succ]
                  refine wpAnyT_takes [] (C := fun _ => True) (i := 1) (v := _) rfl rfl (by kernel_rfl) (by kernel_rfl) (by kernel_rfl) (by kernel_rfl) (fun _ _ _ h => h) (fun _ _ _ _ => trivial) (fun _ _ => .inl (by decide)) trivial (Or.inl ⟨by rfl, fun W _ => by first | (go_simp; done) | (go_simp; with_reducible rfl)⟩) ?_
                  simp only [Act.put, List.setIfInBounds_toArray, List.set_cons_zero, List.set_cons_succ]
                  refine wpAnyT_takes [] (C := fun _ => True) (i := 2) (v := _) rfl rfl (by kernel_rfl) (by kernel_rfl) (by kernel_rfl) (by kernel_rfl) (fun _ _ _ h => h) (fun _ _ _ _ => trivial) (fun _ _ => .inl (by decide)) trivial (Or.inl ⟨by rfl, fun W _ => by first | (go_simp; done) | (go_simp; with_reducible rfl)⟩) ?_
                  simp only [Act.put, List.setIfInBounds_toArray, List.set_cons_zero, List.set_cons_succ]
                  refine wpAnyT_takes [] (C := fun _ => True) (i := 3) (v := _) rfl rfl (by kernel_rfl) (by kernel_rfl) (by kernel_rfl) (by kernel_rfl) (fun _ _ _ h => h) (fun _ _ _ _ => trivial) (fun _ _ => .inl (by decide)) trivial (Or.inl ⟨by rfl, fun W _ => by first | (go_simp; done) | (go_simp; with_reducible rfl)⟩) ?_
                  simp only [Act.put, List.setIfInBounds_toArray, List.set_cons_zero, List.set_cons_succ]
                  refine wpAnyT_takes [] (C := fun _ => True) (i := 4) (v := _) rfl rfl (by kernel_rfl) (by kernel_rfl) (by kernel_rfl) (by kernel_rfl) (fun _ _ _ h => h) (fun _ _ _ _ => trivial) (fun _ _ => .inl (by decide)) trivial (Or.inl ⟨by rfl, fun W _ => by first | (go_simp; done) | (go_simp; with_reducible rfl)⟩) ?_
                  simp only [Act.put, List.setIfInBounds_toArray, List.set_cons_zero, List.set_cons_succ]
                  refine wpAnyT_takes [] (C := fun _ => True) (i := 6) (v := _) rfl rfl (by kernel_rfl) (by kernel_rfl) (by kernel_rfl) (by kernel_rfl) (fun _ _ _ h => h) (fun _ _ _ _ => trivial) (fun _ _ => .inl (by decide)) trivial (Or.inl ⟨by rfl, fun W _ => by first | (go_simp; done) | (go_simp; with_reducible rfl)⟩) ?_
                  simp only [Act.put, List.setIfInBounds_toArray, List.set_cons_zero, List.set_cons_succ]
                  refine wpAnyT_takes [] (C := fun _ => True) (i := 7) (v := _) rfl rfl (by kernel_rfl) (by kernel_rfl) (by kernel_rfl) (by kernel_rfl) (fun _ _ _ h => h) (fun _ _ _ _ => trivial) (fun _ _ => .inl (by decide)) trivial (Or.inl ⟨by rfl, fun W _ => by first | (go_simp; done) | (go_simp; with_reducible rfl)⟩) ?_
                  simp only [Act.put, List.setIfInBounds_toArray, List.set_cons_zero, List.set_cons_succ]
                  refine wpAnyT_takes [] (C := fun _ => True) (i := 10) (v := _) rfl rfl (by kernel_rfl) (by kernel_rfl) (by kernel_rfl) (by kernel_rfl) (fun _ _ _ h => h) (fun _ _ _ _ => trivial) (fun _ _ => .inl (by decide)) trivial (Or.inl ⟨by rfl, fun W _ => by first | (go_simp; done) | (go_simp; with_reducible rfl)⟩) ?_
                  simp only [Act.put, List.setIfInBounds_toArray, List.set_cons_zero, List.set_cons_succ]
                  refine wpAnyT_takes [] (C := fun _ => True) (i := 11) (v := _) rfl rfl (by kernel_rfl) (by kernel_rfl) (by kernel_rfl) (by kernel_rfl) (fun _ _ _ h => h) (fun _ _ _ _ => trivial) (fun _ _ => .inl (by decide)) trivial (Or.inl ⟨by rfl, fun W _ => by first | (go_simp; done) | (go_simp; with_reducible rfl)⟩) ?_
                  simp only [Act.put, List.setIfInBounds_toArray, List.set_cons_zero, List.set_cons_succ]
                  refine wpAnyT_takes [] (C := fun _ => True) (i := 12) (v := _) rfl rfl (by kernel_rfl) (by kernel_rfl) (by kernel_rfl) (by kernel_rfl) (fun _ _ _ h => h) (fun _ _ _ _ => trivial) (fun _ _ => .inl (by decide)) trivial (Or.inl ⟨by rfl, fun W _ => by first | (go_simp; done) | (go_simp; with_reducible rfl)⟩) ?_
                  simp only [Act.put, List.setIfInBounds_toArray, List.set_cons_zero, List.set_cons_succ]
                  refine wpAnyT_takes [] (C := fun _ => True) (i := 14) (v := _) rfl rfl (by kernel_rfl) (by kernel_rfl) (by kernel_rfl) (by kernel_rfl) (fun _ _ _ h => h) (fun _ _ _ _ => trivial) (fun _ _ => .inl (by decide)) trivial (Or.inl ⟨by rfl, fun W _ => by first | (go_simp; done) | (go_simp; with_reducible rfl)⟩) ?_
                  simp only [Act.put, List.setIfInBounds_toArray, List.set_cons_zero, List.set_cons_succ]
                  refine wpAnyT_takes [0, 1, 2, 3, 4, 6, 7, 10, 11, 12, 14] (C := fun W => W.heap[w.heap.size]? = some (.cells #[.int .i64 kN, .bool eN, .slice dA dN dc, .slice nA nN nc, .slice sA sN sc] 32 (0, 0))) (i := 15) (v := .agg #[.int .i64 kN, .bool eN, .slice dA dN dc, .slice nA nN nc, .slice sA sN sc]) rfl rfl (by kernel_rfl) (by kernel_rfl) (by kernel_rfl) (by kernel_rfl) (fun _ _ _ h => h) (fun _ _ hj hT => (hT.resolve_left hj).1) (fun _ h => .inr ⟨h, .inl (by decide)⟩) hbx3 (Or.inl ⟨by rfl, fun W hW => by
                    have b0 := Lib.cell_of_heap hW 0
                    have b1 := Lib.cell_of_heap hW 1
                    have b2 := Lib.cell_of_heap hW 2
                    have b3 := Lib.cell_of_heap hW 3
                    have b4 := Lib.cell_of_heap hW 4
                    simp at b0 b1 b2 b3 b4
                    go_simp⟩) ?_
                  simp only [List.setIfInBounds_toArray, List.set_cons_zero, List.set_cons_succ]
                  refine wpAnyT_takes [0, 1, 2, 3, 4, 6, 7, 10, 11, 12, 14, 15, 18, 19, 20, 21, 22, 23] (C := fun W => W.heap[w.heap.size]? = some (.cells #[.int .i64 kN, .bool eN, .slice dA dN dc, .slice nA nN nc, .slice sA sN sc] 32 (0, 0)) ∧ W.heap[g]? = some (.cells arr 32 (0, 0))) (i := 5) (v := .slice nA1 cna.length nc1) rfl rfl (by kernel_rfl) (by kernel_rfl) (by kernel_rfl) (by kernel_rfl) (fun _ _ _ h => h) (fun j _ hj hT => by
                    have h1 := hT.resolve_left (fun e => hj (List.mem_append_left [15, 18, 19, 20, 21, 22, 23] e))
                    exact ⟨h1.1, h1.2.resolve_left (fun e => hj (List.mem_append_right [0, 1, 2, 3, 4, 6, 7, 10, 11, 12, 14] e))⟩) (fun _ h => .inr ⟨h.1, .inr h.2⟩) ⟨hbx3, hgx⟩ (Or.inl ⟨by rfl, fun W hW => by
                    obtain ⟨_, _, _, p3, p4, _⟩ := hcg W hW.2
                    go_simp⟩) ?_
                  simp only [List.setIfInBounds_toArray, List.set_cons_zero, List.set_cons_succ]
                  refine wpAnyT_takes [0, 1, 2, 3, 4, 6, 7, 10, 11, 12, 14, 15, 18, 19, 20, 21, 22, 23] (C := fun W => W.heap[w.heap.size]? = some (.cells #[.int .i64 kN, .bool eN, .slice dA dN dc, .slice nA nN nc, .slice sA sN sc] 32 (0, 0)) ∧ W.heap[g]? = some (.cells arr 32 (0, 0))) (i := 13) (v := .slice sA1 cns.length sc1) rfl rfl (by kernel_rfl) (by kernel_rfl) (by kernel_rfl) (by kernel_rfl) (fun _ _ _ h => h) (fun j _ hj hT => by
                    have h1 := hT.resolve_left (fun e => hj (List.mem_append_left [15, 18, 19, 20, 21, 22, 23] e))
                    exact ⟨h1.1, h1.2.resolve_left (fun e => hj (List.mem_append_right [0, 1, 2, 3, 4, 6, 7, 10, 11, 12, 14] e))⟩) (fun _ h => .inr ⟨h.1, .inr h.2⟩) ⟨hbx3, hgx⟩ (Or.inl ⟨by rfl, fun W hW => by
                    obtain ⟨_, _, _, p3, p4, _⟩ := hcg W hW.2
                    go_simp⟩) ?_
                  simp only [List.setIfInBounds_toArray, List.set_cons_zero, List.set_cons_succ]
                  have hBX3 := fun W (hm : More w3 W) => (hm.block w.heap.size hxs).trans hbx3
                  have hGX3 := fun W (hm : More w3 W) => (hm.block g hg3).trans hgx
                  refine wpAnyT_all (rs := [8, 16]) (by kernel_rfl) (by simp) (fun i hi => ?_)
                  simp only [List.mem_cons, List.not_mem_nil, or_false] at hi
                  rcases hi with rfl | rfl
                  · refine wpOp_step rfl (fun K hK => ?_)
                    go_simp
                    refine hK _ _ ⟨.inr ⟨hBX3 _ (by first | exact (More.refl _).drew | exact ((More.refl _).alloc _).drew | exact (((More.refl _).alloc _).alloc _).drew), .inr (hGX3 _ (by first | exact (More.refl _).drew | exact ((More.refl _).alloc _).drew | exact (((More.refl _).alloc _).alloc _).drew))⟩, ?_⟩
                    clear hK
                    refine wpAnyT_all (rs := [9, 16]) (by kernel_rfl) (by simp) (fun i hi => ?_)
                    simp only [List.mem_cons, List.not_mem_nil, or_false] at hi
                    rcases hi with rfl | rfl
                    · refine wpOp_step rfl (fun K hK => ?_)
                      go_simp
                      go_at_call 145
                      refine (insS_at (w := w3) (s := bs lk) (by first | exact ((More.refl _).alloc _).drew | exact (((More.refl _).alloc _).alloc _).drew) hnv3 haf (by first | exact heap_alloc_new _ _ | exact new2_fst _ _ _ | exact new2_snd _ _ _) (by first | exact Nat.le_refl _ | omega) (strOne _) hB3 (by omega)).mono ?_
                      intro e w4 hp4
                      obtain ⟨A4, c4, rfl, ho1, hi1, hq1, hz1⟩ := hp4
                      have HK := Lib.hid hK
                      clear hK
                      go_wp2_with fail
                      have hK := HK.out
                      have hs4 := hi1.size
                      have hsv4 := ownsRow_of_block hsv3 (fun k hk => hi1.block k (hsO k hk) (fun e => (HNF.out k e).2 hk))
                      have hBX4 := fun W (hm : More w4 W) => (hm.block w.heap.size (by omega)).trans ((hi1.block _ hxs hxnv).trans hbx3)
                      have hGX4 := fun W (hm : More w4 W) => (hm.block g (by omega)).trans ((hi1.block _ hg3 hgnv).trans hgx)
                      refine hK _ _ ⟨.inr ⟨hBX4 _ (by first | exact More.refl _ | exact (More.refl _).alloc _), .inr (hGX4 _ (by first | exact More.refl _ | exact (More.refl _).alloc _))⟩, ?_⟩
                      clear hK
                      refine wpAnyT_all (rs := [16]) (by kernel_rfl) (by simp) (fun i hi => ?_)
                      simp only [List.mem_cons, List.not_mem_nil, or_false] at hi
                      subst hi
                      refine wpOp_step rfl (fun K hK => ?_)
                      go_simp
                      refine hK _ _ ⟨.inr ⟨hBX4 _ (by first | exact More.refl _ | exact (More.refl _).alloc _), .inr (hGX4 _ (by first | exact More.refl _ | exact (More.refl _).alloc _))⟩, ?_⟩
                      clear hK
                      refine wpAnyT_all (rs := [17]) (by kernel_rfl) (by simp) (fun i hi => ?_)
                      simp only [List.mem_cons, List.not_mem_nil, or_false] at hi
                      subst hi
                      refine wpOp_step rfl (fun K hK => ?_)
                      go_simp
                      go_at_call 146
                      refine (insN_at (w := w4) (cs := #[.int .i64 kN, .bool eN, .slice dA dN dc, .slice nA nN nc, .slice sA sN sc]) (by first | exact More.refl _ | exact (More.refl _).alloc _) hsv4 (by omega) (by first | exact heap_alloc_new _ _ | (refine (hq1 _ (by first | (simp; done) | (simp; omega)) (fun e => by have := (hnv3.lt _ e).2; omega)).trans ?_; first | exact new2_fst _ _ _ | exact new2_snd _ _ _)) (fun e => by have := hsO _ e; omega) rfl hone1 HON.out (by omega) (by omega)).mono ?_
                      intro e w5 hp5
                      obtain ⟨A5, c5, rfl, ho2, hi2, hq2, hz2⟩ := hp5
                      have HK := Lib.hid hK
                      clear hK
                      go_wp2_with fail
                      have hK := HK.out
                      have hs5 := hi2.size
                      have hBX5 := fun W (hm : More w5 W) => (hm.block w.heap.size (by omega)).trans ((hi2.block _ (by omega) hxsv).trans (hBX4 w4 (More.refl _)))
                      have hGX5 := fun W (hm : More w5 W) => (hm.block g (by omega)).trans ((hi2.block _ (by omega) hgsv).trans (hGX4 w4 (More.refl _)))
                      refine hK _ _ ⟨.inr ⟨hBX5 _ (More.refl _), .inr (hGX5 _ (More.refl _))⟩, ?_⟩
                      clear hK
                      refine wpAnyT_takes [0, 1, 2, 3, 4, 6, 7, 10, 11, 12, 14, 5, 8, 9, 13, 15, 16, 17] (C := fun W => W.heap[w.heap.size]? = some (.cells #[.int .i64 kN, .bool eN, .slice dA dN dc, .slice nA nN nc, .slice sA sN sc] 32 (0, 0))) (i := 18) (v := _) rfl rfl (by kernel_rfl) (by kernel_rfl) (by kernel_rfl) (by kernel_rfl) (fun _ _ _ h => h) (fun j _ hj hT => (hT.resolve_left (fun e => hj (List.mem_append_left [5, 8, 9, 13, 15, 16, 17] e))).1) (fun _ h => .inr ⟨h, .inl (by decide)⟩) (hBX5 w5 (More.refl _)) (Or.inl ⟨by rfl, fun W _ => by first | (go_simp; done) | (go_simp; with_reducible rfl)⟩) ?_
                      simp only [List.setIfInBounds_toArray, List.set_cons_zero, List.set_cons_succ]
                      refine wpAnyT_takes [0, 1, 2, 3, 4, 6, 7, 10, 11, 12, 14, 5, 8, 9, 13, 15, 16, 17] (C := fun W => W.heap[w.heap.size]? = some (.cells #[.int .i64 kN, .bool eN, .slice dA dN dc, .slice nA nN nc, .slice sA sN sc] 32 (0, 0))) (i := 19) (v := _) rfl rfl (by kernel_rfl) (by kernel_rfl) (by kernel_rfl) (by kernel_rfl) (fun _ _ _ h => h) (fun j _ hj hT => (hT.resolve_left (fun e => hj (List.mem_append_left [5, 8, 9, 13, 15, 16, 17] e))).1) (fun _ h => .inr ⟨h, .inl (by decide)⟩) (hBX5 w5 (More.refl _)) (Or.inl ⟨by rfl, fun W _ => by first | (go_simp; done) | (go_simp; with_reducible rfl)⟩) ?_
                      simp only [List.setIfInBounds_toArray, List.set_cons_zero, List.set_cons_succ]
                      obtain ⟨_, _, _, p53, p54, pf5⟩ := hcg w5 (hGX5 w5 (More.refl _))
                      have pf53 := pf5 (o + 3)
                      have pf54 := pf5 (o + 4)
                      clear pf5
                      refine wpAnyT_all (rs := [20]) (by kernel_rfl) (by simp) (fun i hi => ?_)
                      simp only [List.mem_cons, List.not_mem_nil, or_false] at hi
                      subst hi
                      refine wpOp_step rfl (fun K hK => ?_)
                      go_simp
                      have hbs1 := (Below.heap_setCell w5 ⟨g, o + 3, none⟩ (.slice A4 (cna.length + 1) c4) w.heap.size (Ne.symm hgx0)).trans (hBX5 w5 (More.refl _))
                      refine hK _ _ ⟨.inr ⟨hbs1, .inl (by decide)⟩, ?_⟩
                      clear hK
                      refine wpAnyT_takes [0, 1, 2, 3, 4, 6, 7, 10, 11, 12, 14, 5, 8, 9, 13, 15, 16, 17] (C := fun W => W.heap[w.heap.size]? = some (.cells #[.int .i64 kN, .bool eN, .slice dA dN dc, .slice nA nN nc, .slice sA sN sc] 32 (0, 0))) (i := 21) (v := _) rfl rfl (by kernel_rfl) (by kernel_rfl) (by kernel_rfl) (by kernel_rfl) (fun _ _ _ h => h) (fun j _ hj hT => (hT.resolve_left (fun e => hj (List.mem_append_left [5, 8, 9, 13, 15, 16, 17] e))).1) (fun _ h => .inr ⟨h, .inl (by decide)⟩) hbs1 (Or.inl ⟨by rfl, fun W _ => by first | (go_simp; done) | (go_simp; with_reducible rfl)⟩) ?_
                      simp only [List.setIfInBounds_toArray, List.set_cons_zero, List.set_cons_succ]
                      refine wpAnyT_takes [0, 1, 2, 3, 4, 6, 7, 10, 11, 12, 14, 5, 8, 9, 13, 15, 16, 17] (C := fun W => W.heap[w.heap.size]? = some (.cells #[.int .i64 kN, .bool eN, .slice dA dN dc, .slice nA nN nc, .slice sA sN sc] 32 (0, 0))) (i := 22) (v := _) rfl rfl (by kernel_rfl) (by kernel_rfl) (by kernel_rfl) (by kernel_rfl) (fun _ _ _ h => h) (fun j _ hj hT => (hT.resolve_left (fun e => hj (List.mem_append_left [5, 8, 9, 13, 15, 16, 17] e))).1) (fun _ h => .inr ⟨h, .inl (by decide)⟩) hbs1 (Or.inl ⟨by rfl, fun W _ => by first | (go_simp; done) | (go_simp; with_reducible rfl)⟩) ?_
                      simp only [List.setIfInBounds_toArray, List.set_cons_zero, List.set_cons_succ]
                      refine wpAnyT_all (rs := [23]) (by kernel_rfl) (by simp) (fun i hi => ?_)
                      simp only [List.mem_cons, List.not_mem_nil, or_false] at hi
                      subst hi
                      refine wpOp_step rfl (fun K hK => ?_)
                      go_simp
                      refine hK _ _ ⟨.inr ⟨(Below.heap_setCell _ ⟨g, o + 4, none⟩ (.slice A5 (cns.length + 1) c5) w.heap.size (Ne.symm hgx0)).trans hbs1, .inl (by decide)⟩, ?_⟩
                      clear hK
                      refine wpAnyT_done (by kernel_rfl) ?_ _
                      have hDone := place_end (cn := [.int .i64 kN, .bool eN, .slice dA dN dc, .slice nA nN nc, .slice sA sN sc]) hb3 hi1 ho1 hi2 ho2 hat hgF hgr hcF (fun k hk => (hNd.lt k hk).2) hn hFn HNF.out HSF.out HIN.out HPG.out (by omega) HE1.out HRE.out rfl
                      have HDE := Lib.hid (And.intro hDone ((Below.heap_setCell _ ⟨g, o + 4, none⟩ (.slice A5 (cns.length + 1) c5) w.heap.size (Ne.symm hgx0)).trans hbs1))
                      go_wp2
                      go_roundw
                      case rel => exact ⟨k + 1, by go_num, HDE.out.2, .inr ⟨by omega, HDE.out.1⟩⟩
                      case measure => simp [intOf]; omega
                    · refine wpOp_step rfl (fun K hK => ?_)
                      go_simp
                      refine hK _ _ ⟨.inr ⟨hBX3 _ (by first | exact (More.refl _).drew | exact ((More.refl _).alloc _).drew | exact (((More.refl _).alloc _).alloc _).drew), .inr (hGX3 _ (by first | exact (More.refl _).drew | exact ((More.refl _).alloc _).drew | exact (((More.refl _).alloc _).alloc _).drew))⟩, ?_⟩
                      clear hK
                      refine wpAnyT_all (rs := [9]) (by kernel_rfl) (by simp) (fun i hi => ?_)
                      simp only [List.mem_cons, List.not_mem_nil, or_false] at hi
                      subst hi
                      refine wpOp_step rfl (fun K hK => ?_)
                      go_simp
                      go_at_call 145
                      refine (insS_at (w := w3) (s := bs lk) (by first | exact ((More.refl _).alloc _).drew | exact (((More.refl _).alloc _).alloc _).drew) hnv3 haf (by first | exact heap_alloc_new _ _ | exact new2_fst _ _ _ | exact new2_snd _ _ _) (by first | exact Nat.le_refl _ | omega) (strOne _) hB3 (by omega)).mono ?_
                      intro e w4 hp4
                      obtain ⟨A4, c4, rfl, ho1, hi1, hq1, hz1⟩ := hp4
                      have HK := Lib.hid hK
                      clear hK
                      go_wp2_with fail
                      have hK := HK.out
                      have hs4 := hi1.size
                      have hsv4 := ownsRow_of_block hsv3 (fun k hk => hi1.block k (hsO k hk) (fun e => (HNF.out k e).2 hk))
                      have hBX4 := fun W (hm : More w4 W) => (hm.block w.heap.size (by omega)).trans ((hi1.block _ hxs hxnv).trans hbx3)
                      have hGX4 := fun W (hm : More w4 W) => (hm.block g (by omega)).trans ((hi1.block _ hg3 hgnv).trans hgx)
                      refine hK _ _ ⟨.inr ⟨hBX4 _ (by first | exact More.refl _ | exact (More.refl _).alloc _), .inr (hGX4 _ (by first | exact More.refl _ | exact (More.refl _).alloc _))⟩, ?_⟩
                      clear hK
                      refine wpAnyT_all (rs := [17]) (by kernel_rfl) (by simp) (fun i hi => ?_)
                      simp only [List.mem_cons, List.not_mem_nil, or_false] at hi
                      subst hi
                      refine wpOp_step rfl (fun K hK => ?_)
                      go_simp
                      go_at_call 146
                      refine (insN_at (w := w4) (cs := #[.int .i64 kN, .bool eN, .slice dA dN dc, .slice nA nN nc, .slice sA sN sc]) (by first | exact More.refl _ | exact (More.refl _).alloc _) hsv4 (by omega) (by first | exact heap_alloc_new _ _ | (refine (hq1 _ (by first | (simp; done) | (simp; omega)) (fun e => by have := (hnv3.lt _ e).2; omega)).trans ?_; first | exact new2_fst _ _ _ | exact new2_snd _ _ _)) (fun e => by have := hsO _ e; omega) rfl hone1 HON.out (by omega) (by omega)).mono ?_
                      intro e w5 hp5
                      obtain ⟨A5, c5, rfl, ho2, hi2, hq2, hz2⟩ := hp5
                      have HK := Lib.hid hK
                      clear hK
                      go_wp2_with fail
                      have hK := HK.out
                      have hs5 := hi2.size
                      have hBX5 := fun W (hm : More w5 W) => (hm.block w.heap.size (by omega)).trans ((hi2.block _ (by omega) hxsv).trans (hBX4 w4 (More.refl _)))
                      have hGX5 := fun W (hm : More w5 W) => (hm.block g (by omega)).trans ((hi2.block _ (by omega) hgsv).trans (hGX4 w4 (More.refl _)))
                      refine hK _ _ ⟨.inr ⟨hBX5 _ (More.refl _), .inr (hGX5 _ (More.refl _))⟩, ?_⟩
                      clear hK
                      refine wpAnyT_takes [0, 1, 2, 3, 4, 6, 7, 10, 11, 12, 14, 5, 8, 9, 13, 15, 16, 17] (C := fun W => W.heap[w.heap.size]? = some (.cells #[.int .i64 kN, .bool eN, .slice dA dN dc, .slice nA nN nc, .slice sA sN sc] 32 (0, 0))) (i := 18) (v := _) rfl rfl (by kernel_rfl) (by kernel_rfl) (by kernel_rfl) (by kernel_rfl) (fun _ _ _ h => h) (fun j _ hj hT => (hT.resolve_left (fun e => hj (List.mem_append_left [5, 8, 9, 13, 15, 16, 17] e))).1) (fun _ h => .inr ⟨h, .inl (by decide)⟩) (hBX5 w5 (More.refl _)) (Or.inl ⟨by rfl, fun W _ => by first | (go_simp; done) | (go_simp; with_reducible rfl)⟩) ?_
                      simp only [List.setIfInBounds_toArray, List.set_cons_zero, List.set_cons_succ]
                      refine wpAnyT_takes [0, 1, 2, 3, 4, 6, 7, 10, 11, 12, 14, 5, 8, 9, 13, 15, 16, 17] (C := fun W => W.heap[w.heap.size]? = some (.cells #[.int .i64 kN, .bool eN, .slice dA dN dc, .slice nA nN nc, .slice sA sN sc] 32 (0, 0))) (i := 19) (v := _) rfl rfl (by kernel_rfl) (by kernel_rfl) (by kernel_rfl) (by kernel_rfl) (fun _ _ _ h => h) (fun j _ hj hT => (hT.resolve_left (fun e => hj (List.mem_append_left [5, 8, 9, 13, 15, 16, 17] e))).1) (fun _ h => .inr ⟨h, .inl (by decide)⟩) (hBX5 w5 (More.refl _)) (Or.inl ⟨by rfl, fun W _ => by first | (go_simp; done) | (go_simp; with_reducible rfl)⟩) ?_
                      simp only [List.setIfInBounds_toArray, List.set_cons_zero, List.set_cons_succ]
                      obtain ⟨_, _, _, p53, p54, pf5⟩ := hcg w5 (hGX5 w5 (More.refl _))
                      have pf53 := pf5 (o + 3)
                      have pf54 := pf5 (o + 4)
                      clear pf5
                      refine wpAnyT_all (rs := [20]) (by kernel_rfl) (by simp) (fun i hi => ?_)
                      simp only [List.mem_cons, List.not_mem_nil, or_false] at hi
                      subst hi
                      refine wpOp_step rfl (fun K hK => ?_)
                      go_simp
                      have hbs1 := (Below.heap_setCell w5 ⟨g, o + 3, none⟩ (.slice A4 (cna.length + 1) c4) w.heap.size (Ne.symm hgx0)).trans (hBX5 w5 (More.refl _))
                      refine hK _ _ ⟨.inr ⟨hbs1, .inl (by decide)⟩, ?_⟩
                      clear hK
                      refine wpAnyT_takes [0, 1, 2, 3, 4, 6, 7, 10, 11, 12, 14, 5, 8, 9, 13, 15, 16, 17] (C := fun W => W.heap[w.heap.size]? = some (.cells #[.int .i64 kN, .bool eN, .slice dA dN dc, .slice nA nN nc, .slice sA sN sc] 32 (0, 0))) (i := 21) (v := _) rfl rfl (by kernel_rfl) (by kernel_rfl) (by kernel_rfl) (by kernel_rfl) (fun _ _ _ h => h) (fun j _ hj hT => (hT.resolve_left (fun e => hj (List.mem_append_left [5, 8, 9, 13, 15, 16, 17] e))).1) (fun _ h => .inr ⟨h, .inl (by decide)⟩) hbs1 (Or.inl ⟨by rfl, fun W _ => by first | (go_simp; done) | (go_simp; with_reducible rfl)⟩) ?_
                      simp only [List.setIfInBounds_toArray, List.set_cons_zero, List.set_cons_succ]
                      refine wpAnyT_takes [0, 1, 2, 3, 4, 6, 7, 10, 11, 12, 14, 5, 8, 9, 13, 15, 16, 17] (C := fun W => W.heap[w.heap.size]? = some (.cells #[.int .i64 kN, .bool eN, .slice dA dN dc, .slice nA nN nc, .slice sA sN sc] 32 (0, 0))) (i := 22) (v := _) rfl rfl (by kernel_rfl) (by kernel_rfl) (by kernel_rfl) (by kernel_rfl) (fun _ _ _ h => h) (fun j _ hj hT => (hT.resolve_left (fun e => hj (List.mem_append_left [5, 8, 9, 13, 15, 16, 17] e))).1) (fun _ h => .inr ⟨h, .inl (by decide)⟩) hbs1 (Or.inl ⟨by rfl, fun W _ => by first | (go_simp; done) | (go_simp; with_reducible rfl)⟩) ?_
                      simp only [List.setIfInBounds_toArray, List.set_cons_zero, List.set_cons_succ]
                      refine wpAnyT_all (rs := [23]) (by kernel_rfl) (by simp) (fun i hi => ?_)
                      simp only [List.mem_cons, List.not_mem_nil, or_false] at hi
                      subst hi
                      refine wpOp_step rfl (fun K hK => ?_)
                      go_simp
                      refine hK _ _ ⟨.inr ⟨(Below.heap_setCell _ ⟨g, o + 4, none⟩ (.slice A5 (cns.length + 1) c5) w.heap.size (Ne.symm hgx0)).trans hbs1, .inl (by decide)⟩, ?_⟩
                      clear hK
                      refine wpAnyT_done (by kernel_rfl) ?_ _
                      have hDone := place_end (cn := [.int .i64 kN, .bool eN, .slice dA dN dc, .slice nA nN nc, .slice sA sN sc]) hb3 hi1 ho1 hi2 ho2 hat hgF hgr hcF (fun k hk => (hNd.lt k hk).2) hn hFn HNF.out HSF.out HIN.out HPG.out (by omega) HE1.out HRE.out rfl
                      have HDE := Lib.hid (And.intro hDone ((Below.heap_setCell _ ⟨g, o + 4, none⟩ (.slice A5 (cns.length + 1) c5) w.heap.size (Ne.symm hgx0)).trans hbs1))
                      go_wp2
                      go_roundw
                      case rel => exact ⟨k + 1, by go_num, HDE.out.2, .inr ⟨by omega, HDE.out.1⟩⟩
                      case measure => simp [intOf]; omega
                  · refine wpOp_step rfl (fun K hK => ?_)
                    go_simp
                    refine hK _ _ ⟨.inr ⟨hBX3 _ (by first | exact (More.refl _).drew | exact ((More.refl _).alloc _).drew | exact (((More.refl _).alloc _).alloc _).drew), .inr (hGX3 _ (by first | exact (More.refl _).drew | exact ((More.refl _).alloc _).drew | exact (((More.refl _).alloc _).alloc _).drew))⟩, ?_⟩
                    clear hK
                    refine wpAnyT_all (rs := [8]) (by kernel_rfl) (by simp) (fun i hi => ?_)
                    simp only [List.mem_cons, List.not_mem_nil, or_false] at hi
                    subst hi
                    refine wpOp_step rfl (fun K hK => ?_)
                    go_simp
                    refine hK _ _ ⟨.inr ⟨hBX3 _ (by first | exact (More.refl _).drew | exact ((More.refl _).alloc _).drew | exact (((More.refl _).alloc _).alloc _).drew), .inr (hGX3 _ (by first | exact (More.refl _).drew | exact ((More.refl _).alloc _).drew | exact (((More.refl _).alloc _).alloc _).drew))⟩, ?_⟩
                    clear hK
                    refine wpAnyT_all (rs := [9]) (by kernel_rfl) (by simp) (fun i hi => ?_)
                    simp only [List.mem_cons, List.not_mem_nil, or_false] at hi
                    subst hi
                    refine wpOp_step rfl (fun K hK => ?_)
                    go_simp
                    go_at_call 145
                    refine (insS_at (w := w3) (s := bs lk) (by first | exact ((More.refl _).alloc _).drew | exact (((More.refl _).alloc _).alloc _).drew) hnv3 haf (by first | exact heap_alloc_new _ _ | exact new2_fst _ _ _ | exact new2_snd _ _ _) (by first | exact Nat.le_refl _ | omega) (strOne _) hB3 (by omega)).mono ?_
                    intro e w4 hp4
                    obtain ⟨A4, c4, rfl, ho1, hi1, hq1, hz1⟩ := hp4
                    have HK := Lib.hid hK
                    clear hK
                    go_wp2_with fail
                    have hK := HK.out
                    have hs4 := hi1.size
                    have hsv4 := ownsRow_of_block hsv3 (fun k hk => hi1.block k (hsO k hk) (fun e => (HNF.out k e).2 hk))
                    have hBX4 := fun W (hm : More w4 W) => (hm.block w.heap.size (by omega)).trans ((hi1.block _ hxs hxnv).trans hbx3)
                    have hGX4 := fun W (hm : More w4 W) => (hm.block g (by omega)).trans ((hi1.block _ hg3 hgnv).trans hgx)
                    refine hK _ _ ⟨.inr ⟨hBX4 _ (by first | exact More.refl _ | exact (More.refl _).alloc _), .inr (hGX4 _ (by first | exact More.refl _ | exact (More.refl _).alloc _))⟩, ?_⟩
                    clear hK
                    refine wpAnyT_all (rs := [17]) (by kernel_rfl) (by simp) (fun i hi => ?_)
                    simp only [List.mem_cons, List.not_mem_nil, or_false] at hi
                    subst hi
                    refine wpOp_step rfl (fun K hK => ?_)
                    go_simp
                    go_at_call 146
                    refine (insN_at (w := w4) (cs := #[.int .i64 kN, .bool eN, .slice dA dN dc, .slice nA nN nc, .slice sA sN sc]) (by first | exact More.refl _ | exact (More.refl _).alloc _) hsv4 (by omega) (by first | exact heap_alloc_new _ _ | (refine (hq1 _ (by first | (simp; done) | (simp; omega)) (fun e => by have := (hnv3.lt _ e).2; omega)).trans ?_; first | exact new2_fst _ _ _ | exact new2_snd _ _ _)) (fun e => by have := hsO _ e; omega) rfl hone1 HON.out (by omega) (by omega)).mono ?_
                    intro e w5 hp5
                    obtain ⟨A5, c5, rfl, ho2, hi2, hq2, hz2⟩ := hp5
                    have HK := Lib.hid hK
                    clear hK
                    go_wp2_with fail
                    have hK := HK.out
                    have hs5 := hi2.size
                    have hBX5 := fun W (hm : More w5 W) => (hm.block w.heap.size (by omega)).trans ((hi2.block _ (by omega) hxsv).trans (hBX4 w4 (More.refl _)))
                    have hGX5 := fun W (hm : More w5 W) => (hm.block g (by omega)).trans ((hi2.block _ (by omega) hgsv).trans (hGX4 w4 (More.refl _)))
                    refine hK _ _ ⟨.inr ⟨hBX5 _ (More.refl _), .inr (hGX5 _ (More.refl _))⟩, ?_⟩
                    clear hK
                    refine wpAnyT_takes [0, 1, 2, 3, 4, 6, 7, 10, 11, 12, 14, 5, 8, 9, 13, 15, 16, 17] (C := fun W => W.heap[w.heap.size]? = some (.cells #[.int .i64 kN, .bool eN, .slice dA dN dc, .slice nA nN nc, .slice sA sN sc] 32 (0, 0))) (i := 18) (v := _) rfl rfl (by kernel_rfl) (by kernel_rfl) (by kernel_rfl) (by kernel_rfl) (fun _ _ _ h => h) (fun j _ hj hT => (hT.resolve_left (fun e => hj (List.mem_append_left [5, 8, 9, 13, 15, 16, 17] e))).1) (fun _ h => .inr ⟨h, .inl (by decide)⟩) (hBX5 w5 (More.refl _)) (Or.inl ⟨by rfl, fun W _ => by first | (go_simp; done) | (go_simp; with_reducible rfl)⟩) ?_
                    simp only [List.setIfInBounds_toArray, List.set_cons_zero, List.set_cons_succ]
                    refine wpAnyT_takes [0, 1, 2, 3, 4, 6, 7, 10, 11, 12, 14, 5, 8, 9, 13, 15, 16, 17] (C := fun W => W.heap[w.heap.size]? = some (.cells #[.int .i64 kN, .bool eN, .slice dA dN dc, .slice nA nN nc, .slice sA sN sc] 32 (0, 0))) (i := 19) (v := _) rfl rfl (by kernel_rfl) (by kernel_rfl) (by kernel_rfl) (by kernel_rfl) (fun _ _ _ h => h) (fun j _ hj hT => (hT.resolve_left (fun e => hj (List.mem_append_left [5, 8, 9, 13, 15, 16, 17] e))).1) (fun _ h => .inr ⟨h, .inl (by decide)⟩) (hBX5 w5 (More.refl _)) (Or.inl ⟨by rfl, fun W _ => by first | (go_simp; done) | (go_simp; with_reducible rfl)⟩) ?_
                    simp only [List.setIfInBounds_toArray, List.set_cons_zero, List.set_cons_succ]
                    obtain ⟨_, _, _, p53, p54, pf5⟩ := hcg w5 (hGX5 w5 (More.refl _))
                    have pf53 := pf5 (o + 3)
                    have pf54 := pf5 (o + 4)
                    clear pf5
                    refine wpAnyT_all (rs := [20]) (by kernel_rfl) (by simp) (fun i hi => ?_)
                    simp only [List.mem_cons, List.not_mem_nil, or_false] at hi
                    subst hi
                    refine wpOp_step rfl (fun K hK => ?_)
                    go_simp
                    have hbs1 := (Below.heap_setCell w5 ⟨g, o + 3, none⟩ (.slice A4 (cna.length + 1) c4) w.heap.size (Ne.symm hgx0)).trans (hBX5 w5 (More.refl _))
                    refine hK _ _ ⟨.inr ⟨hbs1, .inl (by decide)⟩, ?_⟩
                    clear hK
                    refine wpAnyT_takes [0, 1, 2, 3, 4, 6, 7, 10, 11, 12, 14, 5, 8, 9, 13, 15, 16, 17] (C := fun W => W.heap[w.heap.size]? = some (.cells #[.int .i64 kN, .bool eN, .slice dA dN dc, .slice nA nN nc, .slice sA sN sc] 32 (0, 0))) (i := 21) (v := _) rfl rfl (by kernel_rfl) (by kernel_rfl) (by kernel_rfl) (by kernel_rfl) (fun _ _ _ h => h) (fun j _ hj hT => (hT.resolve_left (fun e => hj (List.mem_append_left [5, 8, 9, 13, 15, 16, 17] e))).1) (fun _ h => .inr ⟨h, .inl (by decide)⟩) hbs1 (Or.inl ⟨by rfl, fun W _ => by first | (go_simp; done) | (go_simp; with_reducible rfl)⟩) ?_
                    simp only [List.setIfInBounds_toArray, List.set_cons_zero, List.set_cons_succ]
                    refine wpAnyT_takes [0, 1, 2, 3, 4, 6, 7, 10, 11, 12, 14, 5, 8, 9, 13, 15, 16, 17] (C := fun W => W.heap[w.heap.size]? = some (.cells #[.int .i64 kN, .bool eN, .slice dA dN dc, .slice nA nN nc, .slice sA sN sc] 32 (0, 0))) (i := 22) (v := _) rfl rfl (by kernel_rfl) (by kernel_rfl) (by kernel_rfl) (by kernel_rfl) (fun _ _ _ h => h) (fun j _ hj hT => (hT.resolve_left (fun e => hj (List.mem_append_left [5, 8, 9, 13, 15, 16, 17] e))).1) (fun _ h => .inr ⟨h, .inl (by decide)⟩) hbs1 (Or.inl ⟨by rfl, fun W _ => by first | (go_simp; done) | (go_simp; with_reducible rfl)⟩) ?_
                    simp only [List.setIfInBounds_toArray, List.set_cons_zero, List.set_cons_succ]
                    refine wpAnyT_all (rs := [23]) (by kernel_rfl) (by simp) (fun i hi => ?_)
                    simp only [List.mem_cons, List.not_mem_nil, or_false] at hi
                    subst hi
                    refine wpOp_step rfl (fun K hK => ?_)
                    go_simp
                    refine hK _ _ ⟨.inr ⟨(Below.heap_setCell _ ⟨g, o + 4, none⟩ (.slice A5 (cns.length + 1) c5) w.heap.size (Ne.symm hgx0)).trans hbs1, .inl (by decide)⟩, ?_⟩
                    clear hK
                    refine wpAnyT_done (by kernel_rfl) ?_ _
                    have hDone := place_end (cn := [.int .i64 kN, .bool eN, .slice dA dN dc, .slice nA nN nc, .slice sA sN sc]) hb3 hi1 ho1 hi2 ho2 hat hgF hgr hcF (fun k hk => (hNd.lt k hk).2) hn hFn HNF.out HSF.out HIN.out HPG.out (by omega) HE1.out HRE.out rfl
                    have HDE := Lib.hid (And.intro hDone ((Below.heap_setCell _ ⟨g, o + 4, none⟩ (.slice A5 (cns.length + 1) c5) w.heap.size (Ne.symm hgx0)).trans hbs1))
                    go_wp2
                    go_roundw
                    case rel => exact ⟨k + 1, by go_num, HDE.out.2, .inr ⟨by omega, HDE.out.1⟩⟩
                    case measure => simp [intOf]; omega
              · have hd0 : l.drop (k + 1) ≠ [] := by intro e; have := congrArg List.length e; simp at this; omega
                have q1 : ((k : Int) == (l.length : Int) - 1) = false := by rw [beq_eq_false_iff_ne]; omega
                have HD0 := Lib.hid hd0
                clear hd0
                cases th with
                | false =>
                  have hres : placeF root l n = .error 14 := by rw [HPL.out, HPF.out, if_neg HD0.out, if_pos rfl]; rfl
                  rw [hres]
                  have HF := Lib.hid (RFrame.of_below (rb := rb) (F0 := F0) hbw)
                  clear hres
                  go_wp2_with (go_at_call 144; refine hbs.mono ?_)
                  rintro e w2 rfl q rfl
                  go_wp2
                  go_ret
                  exact ⟨⟨HF.out.os, HF.out.tape, HF.out.output, HF.out.size, HF.out.block⟩, rfl⟩
                | true =>
                  have hjl : j < cns.length := by have := hthl rfl; omega
                  obtain ⟨g2, cap, dv2, nv2, Fj, cj, hcc, hat2, hcN2, hg2F, hg2, hFj, hplug2⟩ := plug_child HPG.out hcN hat hgF hcF (fun k hk => (hFn k hk).1) (fun k hk => (hNd.lt k hk).2) j hjl
                  injection hcc with _ hcc
                  injection hcc with _ hcc
                  injection hcc with h3 hcc
                  injection hcc with h4 hcc
                  injection hcc with h5 _
                  subst h3 h4 h5
                  have hresf : Down B rb F0 Fn root l n w (k + 1) (.pointer (some ⟨g2, j * 5, none⟩)) wr := by
                    refine ⟨cns[j], g2, j * 5, Fj, cj, _, rfl, hbw, hcN2, hat2, hg2F, .inr (hcF _ hg2), fun k hk => hcF k (hFj k hk), hcE3.mem _ (List.getElem_mem hjl), ?_, ?_, hplug2⟩
                    · have := szsF_mem (List.getElem_mem hjl)
                      omega
                    · rw [HPL.out, HPF.out, if_neg HD0.out, if_neg (by decide), List.getElem?_eq_getElem hjl]
                      dsimp only
                      cases placeF cns[j] (l.drop (k + 1)) n <;> rfl
                  have HDN := Lib.hid hresf
                  have hcap : cns.length ≤ 100000000 := by omega
                  clear hresf hplug2 hcN2 hat2 hcs hthl
                  have c0x := hbx2
                  go_wp2_with (go_at_call 144; refine hbs.mono ?_)
                  rintro e w2 rfl q rfl
                  go_wp2
                  go_roundw
                  case rel => exact ⟨k + 1, by go_num, hbx2, .inl ⟨by omega, by obtain ⟨a1, a2, a3, a4, a5, a6, a7, ab, a8⟩ := HDN.out; exact ⟨a1, a2, a3, a4, a5, a6, a7, ⟨ab.os, ab.tape, ab.output, ab.size, ab.block⟩, a8⟩⟩⟩
                  case measure => simp [intOf]; omega
            · have q : (ck != 2) = true := by simpa using hck
              have hres : placeF root l n = .error 12 := by rw [hpl, placeF, if_pos hck]; rfl
              rw [hres]
              have HI := Lib.hid hins
              clear hins hpl hplug hdrop hone hnvF hsvF
              go_wp2
              go_ret
              exact ⟨RFrame.of_below hbw, rfl⟩
        · obtain ⟨t, ht, hfr, hrt⟩ := hdone
          have HR := Lib.hid (And.intro hfr hrt)
          have HT2 := Lib.hid ht
          clear hfr hrt ht
          go_wp2
          go_ret
          refine ⟨HR.out.1, ?_⟩
          rw [HT2.out]
          exact ⟨rfl, HR.out.2⟩
end Go.Proofs.YtejpkjcjoengbaaGreatDoor
