/-
  package vm: a tree put out at a path, by walk; file, exec, link, dir.
-/
import Derived.Test.YtejpkjcjoengbaaGreatDoorVmX
import Derived.Test.YtejpkjcjoengbaaGreatDoorVmJ
set_option linter.unusedVariables false
set_option linter.unusedSimpArgs false
namespace Go.Proofs.YtejpkjcjoengbaaGreatDoor
open Go.RowKit

section
variable {B b : Nat} {ev av iv : Value} {most : Int} {F : Nat → Prop} {s : MSt} {w w' : World}

/-- From an output that was put at block N. -/
theorem StepPost.done {sv : Value} {F1 : Nat → Prop} {n t : Nd} {N : Nat} {x : Ending}
    (hm : Mac B b ev av iv most sv s.st (.pointer (some ⟨N, 0, none⟩)) (s.bytes + n.data.length) s.lb w') (hS : ∀ k, k < w.heap.size → ¬ F k → w'.heap[k]? = w.heap[k]?) (ho : w'.os = w.os) (ht : w'.tape = w.tape) (hp : w'.output = w.output) (hsz : w.heap.size ≤ w'.heap.size)
    (hstk : ∀ k, sv.ownBlock = some k → F k) (hFb : F b) (cs : Array Value) (hN : w'.heap[N]? = some (.cells cs 32 (0, 0))) (hNd : NdO B w' t F1 cs.toList) (hN1 : ¬ F1 N) (hNf : N ≠ b ∧ sv.ownBlock ≠ some N ∧ B ≤ N ∧ (F N ∨ w.heap.size ≤ N))
    (hF1 : ∀ k, F1 k → k ≠ b ∧ sv.ownBlock ≠ some k ∧ (F k ∨ w.heap.size ≤ k)) (hst : stOk s.st) (hb0 : 0 ≤ s.bytes) (hb1 : s.bytes ≤ 1048576) (hmost : most ≤ 1048576) (hEq : NdEq t) (hx : x = .returned (quotaV (s.bytes + n.data.length) most)) :
    StepPost (doneF most s n t) B b ev av iv most F w x w' := by
  unfold doneF
  by_cases hq : s.bytes + n.data.length > most
  · rw [if_pos hq]
    exact ⟨by rw [hx]; simp [quotaV, hq, resS], F, ⟨ho, ht, hp, hsz, hS, fun k hk => .inl hk⟩, fun s' h => by cases h⟩
  · rw [if_neg hq]
    refine ⟨by rw [hx]; simp [quotaV, hq, resS], fun k => k = b ∨ sv.ownBlock = some k ∨ (k = N ∨ F1 k), ⟨ho, ht, hp, hsz, hS, fun k hk => ?_⟩, fun s' h => ?_⟩
    · rcases hk with rfl | h | rfl | h
      · exact .inl hFb
      · exact .inl (hstk k h)
      · exact hNf.2.2.2
      · exact (hF1 k h).2.2
    · injection h with h
      subst h
      refine ⟨sv, _, fun k => k = N ∨ F1 k, hm, ⟨N, cs, F1, rfl, .inl rfl, hN, hNd, hN1, fun k hk => .inr hk, hEq⟩, fun k hk => ?_, fun k => Iff.rfl, hst, by show 0 ≤ s.bytes + n.data.length; omega, by show s.bytes + n.data.length ≤ 1048576; omega⟩
      rcases hk with rfl | hk
      · exact ⟨hNf.2.2.1, (Array.getElem?_eq_some_iff.1 hN).1, hNf.1, hNf.2.1⟩
      · exact ⟨(hNd.lt k hk).1, (hNd.lt k hk).2, (hF1 k hk).1, (hF1 k hk).2.1⟩

theorem RFrame.more {w W w' : World} {rb : Nat} {F0 : Nat → Prop} (hm : More w W) (h : RFrame W w' rb F0) : RFrame w w' rb F0 :=
  ⟨h.os.trans hm.os, h.tape.trans hm.tape, h.output.trans hm.output, Nat.le_trans hm.size h.size, fun k hk h1 h2 => (h.block k (Nat.lt_of_lt_of_le hk hm.size) h1 h2).trans (hm.block k hk)⟩
def resF (root : Nd) (l : List (List UInt8)) (n : Nd) : Except Int Nd := if l.all (fun x => rightF (nameNd x) == 0) = false then .error 17 else placeF root l n
def finF (most : Int) (s : MSt) (n : Nd) (r : Except Int Nd) : SRes := match r with
  | .error x => .error x
  | .ok t => doneF most s n t
theorem emitF_path (most : Int) (s : MSt) (n : Nd) {p : List UInt8} (hp : p ≠ []) : emitF most s p n = finF most s n (resF (s.out.getD emptyDir) (splitSl p) n) := by
  unfold emitF
  rw [if_neg hp]
  unfold resF finF
  split
  · rfl
  · cases placeF (s.out.getD emptyDir) (splitSl p) n <;> rfl
section
variable {rb nb c : Nat} {F0 Fn : Nat → Prop} {root : Nd} {cs : Array Value} {l : List (List UInt8)} {n : Nd} {cn : List Value} {W : World}
theorem place_raw (hm : More w W) (hroot : w.heap[rb]? = some (.cells cs 32 (0, 0))) (hNd : NdO B w root F0 cs.toList) (hrb : ¬ F0 rb) (hB : B ≤ w.heap.size) (hEq : NdEq root) (hsz : szF root ≤ 50000000)
    (hl : W.heap[nb]? = some (.cells (strCells l).toArray 9 (0, 0))) (hnb : w.heap.size ≤ nb) (hl0 : 0 < l.length) (hll : l.length ≤ 1000000) (hlx : ∀ x ∈ l, x.length ≤ 65536)
    (hn : NdO B w n Fn cn) (hFn : ∀ k, Fn k → ¬ F0 k ∧ k ≠ rb) :
    Calls Tryz.prog 120 #[.pointer (some ⟨rb, 0, none⟩), .slice (some ⟨nb, 0, none⟩) l.length c, .agg cn.toArray] W (PlacePost B rb F0 Fn (resF root l n) W) := by
  have hrl := (Array.getElem?_eq_some_iff.1 hroot).1
  exact vm_place ((hm.block rb hrl).trans hroot) (hNd.kept hm.size (fun k hk => hm.block k (hNd.lt k hk).2)) hrb (Nat.le_trans hB hm.size) hEq hsz (fun j x hx => by rw [cell_of_row _ _ _ _ _ _ hl]; simpa using hx) ⟨(Array.getElem?_eq_some_iff.1 hl).1, by omega, fun e => by have := (hNd.lt nb e).2; omega⟩ hl0 hll hlx (hn.kept hm.size (fun k hk => hm.block k (hn.lt k hk).2)) hFn
theorem place_err {x : Int} (hx : resF root l n = .error x) (hm : More w W) (hroot : w.heap[rb]? = some (.cells cs 32 (0, 0))) (hNd : NdO B w root F0 cs.toList) (hrb : ¬ F0 rb) (hB : B ≤ w.heap.size) (hEq : NdEq root) (hsz : szF root ≤ 50000000)
    (hl : W.heap[nb]? = some (.cells (strCells l).toArray 9 (0, 0))) (hnb : w.heap.size ≤ nb) (hl0 : 0 < l.length) (hll : l.length ≤ 1000000) (hlx : ∀ x ∈ l, x.length ≤ 65536)
    (hn : NdO B w n Fn cn) (hFn : ∀ k, Fn k → ¬ F0 k ∧ k ≠ rb) :
    Calls Tryz.prog 120 #[.pointer (some ⟨rb, 0, none⟩), .slice (some ⟨nb, 0, none⟩) l.length c, .agg cn.toArray] W (fun e w' => e = .returned (.iface 62 (.agg #[.int .i64 x])) ∧ RFrame w w' rb F0) :=
  (place_raw hm hroot hNd hrb hB hEq hsz hl hnb hl0 hll hlx hn hFn).mono fun e w' h => by
    rw [hx] at h
    exact ⟨h.2, h.1.more hm⟩
theorem place_ok {t : Nd} (hx : resF root l n = .ok t) (hm : More w W) (hroot : w.heap[rb]? = some (.cells cs 32 (0, 0))) (hNd : NdO B w root F0 cs.toList) (hrb : ¬ F0 rb) (hB : B ≤ w.heap.size) (hEq : NdEq root) (hsz : szF root ≤ 50000000)
    (hl : W.heap[nb]? = some (.cells (strCells l).toArray 9 (0, 0))) (hnb : w.heap.size ≤ nb) (hl0 : 0 < l.length) (hll : l.length ≤ 1000000) (hlx : ∀ x ∈ l, x.length ≤ 65536)
    (hn : NdO B w n Fn cn) (hFn : ∀ k, Fn k → ¬ F0 k ∧ k ≠ rb) :
    Calls Tryz.prog 120 #[.pointer (some ⟨rb, 0, none⟩), .slice (some ⟨nb, 0, none⟩) l.length c, .agg cn.toArray] W (fun e w' => e = .returned .nilIface ∧ RFrame w w' rb F0 ∧ RootP B rb F0 Fn t w w') :=
  (place_raw hm hroot hNd hrb hB hEq hsz hl hnb hl0 hll hlx hn hFn).mono fun e w' h => by
    rw [hx] at h
    obtain ⟨h1, h2, F', cs', h3, h4, h5⟩ := h
    refine ⟨h2, h1.more hm, F', cs', h3, h4, fun k hk => ?_⟩
    rcases h5 k hk with h6 | h6 | h6
    · exact .inl h6
    · exact .inr (.inl h6)
    · exact .inr (.inr (Nat.le_trans hm.size h6))
end

theorem emptyDir_own (B : Nat) (w : World) : NdO B w emptyDir (fun _ => False) [.int .i64 2, .bool false, .slice none 0 0, .slice none 0 0, .slice none 0 0] := by
  unfold emptyDir
  simp only [NdO, NdsO]
  exact ⟨_, _, _, fun _ => False, fun _ => False, [], rfl, SliceIs.nil _ _ _, fun _ h => h.elim, World.ownsRow_nil _ _ _ _, World.ownsRow_nil _ _ _ _, ⟨rfl, fun _ h => h⟩, fun _ h => by simp [Value.ownBlock] at h, fun _ h => by simp [Value.ownBlock] at h, fun _ h => h.elim, fun j => by simp [Value.ownBlock]⟩
theorem splitSl_pos (p : List UInt8) : 0 < (splitSl p).length := by
  have hlen := Lib.splitB_all ⟨#[47]⟩ (by decide) 0 (Lib.countB (bs p) ⟨#[47]⟩) (bs p) rfl
  unfold splitSl
  rw [List.length_map, hlen]
  omega
theorem splitSl_len2 (p : List UInt8) (hp : p.length ≤ 65536) : (splitSl p).length ≤ 65537 := by
  have hlen := Lib.splitB_all ⟨#[47]⟩ (by decide) 0 (Lib.countB (bs p) ⟨#[47]⟩) (bs p) rfl
  have h1 : (splitSl p).length = Lib.countB (bs p) ⟨#[47]⟩ + 1 := by unfold splitSl; rw [List.length_map]; exact hlen
  rw [h1]
  have := Lib.countB_le ⟨#[47]⟩ (by decide) _ (bs p) (Nat.le_refl _)
  rw [bs_size] at this
  omega
theorem splitB_size (sep : ByteArray) : ∀ (k : Nat) (s : ByteArray), ∀ x ∈ Lib.splitB sep 0 k s, x.size ≤ s.size
  | 0, s, x, hx => by
    simp only [Lib.splitB, List.mem_singleton] at hx
    subst hx
    exact Nat.le_refl _
  | k + 1, s, x, hx => by
    unfold Lib.splitB at hx
    split at hx
    · simp only [List.mem_singleton] at hx
      subst hx
      exact Nat.le_refl _
    · rcases List.mem_cons.1 hx with h | h
      · subst h
        rw [ByteArray.size_extract]
        omega
      · have := splitB_size sep k _ x h
        rw [ByteArray.size_extract] at this
        omega
theorem splitSl_mem (p : List UInt8) (hp : p.length ≤ 65536) : ∀ x ∈ splitSl p, x.length ≤ 65536 := by
  intro x hx
  unfold splitSl at hx
  obtain ⟨y, hy, rfl⟩ := List.mem_map.1 hx
  have := splitB_size _ _ _ y hy
  rw [bs_size] at this
  have h2 : y.data.toList.length = y.size := by simp
  exact Nat.le_trans (Nat.le_of_eq h2) (Nat.le_trans this hp)

theorem NdO.drew2 {B : Nat} {w : World} {n : Nd} {F : Nat → Prop} {c : List Value} (h : NdO B w n F c) : NdO B w.drew.drew n F c := NdO.kept (w := w) (w' := w.drew.drew) (show w.heap.size ≤ w.drew.drew.heap.size from Nat.le_refl w.heap.size) h (fun _ _ => rfl)

/-- At the root, where something is put out. -/
theorem vm_emit_there {sv : Value} {st : List (List UInt8)} {N : Nat} {bytes : Int} {lb : List UInt8} (h : Mac B b ev av iv most sv st (.pointer (some ⟨N, 0, none⟩)) bytes lb w) (kind : Int) (exec : Bool) (dv na nb : Value) :
    Calls Tryz.prog 89 #[.pointer (some ⟨b, 0, none⟩), .string (bs []), .agg (nodeV kind exec dv na nb)] w fun e w' => e = .returned (faultV 13) ∧ Below w.heap.size w w' := by
  have hm := h.kept ((Below.refl w.heap.size w).alloc (Nat.le_refl _) (.cells (nodeV kind exec dv na nb) 32))
  have c5 := hm.cell 5
  simp at c5
  go_enter Tryz.func89, Tryz.ntmps89
  go_wp2
  go_ret
  exact ⟨rfl, (Below.refl _ _).alloc (Nat.le_refl _) _⟩

set_option maxHeartbeats 4000000 in
set_option maxRecDepth 100000 in
theorem vm_emit (h : MIs B b ev av iv most F s w) (hg : Glob w) (hgB : Tryz.prog.globals.size ≤ B) (hmost : most ≤ 1048576) (p : List UInt8) (hp : p.length ≤ 65536) (kind : Int) (exec : Bool) (d : List UInt8) (dA : Option Addr) (dc : Nat) {Fn : Nat → Prop}
    (hD : NdO B w (.mk kind exec d [] []) Fn [.int .i64 kind, .bool exec, .slice dA d.length dc, .slice none 0 0, .slice none 0 0]) (hFn : ∀ k, Fn k → ¬ F k) (hsz : outSz s.out ≤ 40000000) (hd : d.length ≤ 65536) :
    Calls Tryz.prog 89 #[.pointer (some ⟨b, 0, none⟩), .string (bs p), .agg (nodeV kind exec (.slice dA d.length dc) (.slice none 0 0) (.slice none 0 0))] w (StepPost (emitF most s p (.mk kind exec d [] [])) B b ev av iv most (fun k => F k ∨ Fn k) w) := by
  have hall := h
  obtain ⟨sv, ov, G, h1, h2, h3, h4, h5, h6, h7⟩ := h
  have hEq : NdEq (.mk kind exec d [] []) := by simp [NdEq, NdsEq]
  have hFb : F b := (h4 b).2 (.inl rfl)
  have hFlt := hall.foot
  by_cases hp0 : p = []
  · subst hp0
    unfold emitF
    rw [if_pos rfl]
    cases ho : s.out with
    | some n0 =>
      rw [ho] at h2
      obtain ⟨N, cs, F0, rfl, _⟩ := h2
      refine (vm_emit_there h1 kind exec _ _ _).mono fun e w' hh => ?_
      obtain ⟨rfl, hb⟩ := hh
      exact ⟨rfl, _, SFrame.of_below hb, fun s' e => by cases e⟩
    | none =>
      rw [ho] at h2
      have hov : ov = .pointer none := h2
      subst hov
      refine (vm_emit_root kind exec dA d.length dc (.slice none 0 0) (.slice none 0 0) h1 ⟨h6, by omega⟩ (by omega)).mono fun e w' hh => ?_
      obtain ⟨rfl, hm, N, hN0, hN, hmac⟩ := hh
      have hD' := hD.kept hm.size (fun k hk => hm.block k (hD.lt k hk).2 (fun e => hFn k hk (by rw [e]; exact hFb)) (fun e => hFn k hk ((h4 k).2 (.inr (.inl e)))))
      refine StepPost.done (F := fun k => F k ∨ Fn k) (n := .mk kind exec d [] []) (t := .mk kind exec d [] []) (N := N) (F1 := Fn) hmac (fun k hk hn => hm.block k hk (fun e => hn (.inl (by rw [e]; exact hFb))) (fun e => hn (.inl ((h4 k).2 (.inr (.inl e)))))) hm.os hm.tape hm.output hm.size (fun k hk => .inl ((h4 k).2 (.inr (.inl hk)))) (.inl hFb) _ hN hD' (fun e => by have := (hD.lt N e).2; omega)
        ⟨fun e => by have := (hFlt b hFb).2; omega, fun e => by have := (hFlt N ((h4 N).2 (.inr (.inl e)))).2; omega, by have := (hFlt b hFb); omega, .inr hN0⟩ (fun k hk => ⟨fun e => hFn k hk (by rw [e]; exact hFb), fun e => hFn k hk ((h4 k).2 (.inr (.inl e))), .inl (.inr hk)⟩) h5 h6 h7 hmost hEq rfl
  · rw [emitF_path most s _ hp0]
    obtain ⟨res, hres0⟩ : ∃ res : SRes, res = finF most s (.mk kind exec d [] []) (resF (s.out.getD emptyDir) (splitSl p) (.mk kind exec d [] [])) := ⟨_, rfl⟩
    rw [← hres0]
    have q : (p == ([] : List UInt8)) = false := by simpa using hp0
    have hba : Below w.heap.size w ((w.alloc (.cells (nodeV kind exec (.slice dA d.length dc) (.slice none 0 0) (.slice none 0 0)) 32)).alloc (.cells #[.int .i64 2, .bool false, .slice none 0 0, .slice none 0 0, .slice none 0 0] 32)) := ((Below.refl _ _).alloc (Nat.le_refl _) _).alloc (by simp) _
    have hm0 := h1.kept hba
    have c5 := hm0.cell 5
    have c6 := hm0.cell 6
    have c3 := hm0.cell 3
    simp at c5 c6 c3
    have f5 := hm0.frozen 5
    have f6 := hm0.frozen 6
    have hbx := new2_fst w (.cells (nodeV kind exec (.slice dA d.length dc) (.slice none 0 0) (.slice none 0 0)) 32) (.cells #[.int .i64 2, .bool false, .slice none 0 0, .slice none 0 0, .slice none 0 0] 32)
    have hrx := new2_snd w (.cells (nodeV kind exec (.slice dA d.length dc) (.slice none 0 0) (.slice none 0 0)) 32) (.cells #[.int .i64 2, .bool false, .slice none 0 0, .slice none 0 0, .slice none 0 0] 32)
    cases ho : s.out with
    | none =>
      rw [ho] at h2 hres0
      have hov : ov = .pointer none := h2
      subst hov
      have HR0 := Lib.hid hres0
      clear hres0
      go_enter Tryz.func89, Tryz.ntmps89
      go_wp2_with (fail)
      have hbp := hba
      have hNdp : NdO B ((w.alloc (.cells (nodeV kind exec (.slice dA d.length dc) (.slice none 0 0) (.slice none 0 0)) 32)).alloc (.cells #[.int .i64 2, .bool false, .slice none 0 0, .slice none 0 0, .slice none 0 0] 32)) emptyDir (fun _ => False) [.int .i64 2, .bool false, .slice none 0 0, .slice none 0 0, .slice none 0 0] := emptyDir_own B _
      have hE0 : NdEq emptyDir := by simp [emptyDir, NdEq, NdsEq]
      have hszr0 : szF emptyDir ≤ 50000000 := by simp [emptyDir, szF, szsF]
      have hFG : ∀ k, (fun _ => False : Nat → Prop) k → G k := fun k hk => hk.elim
      generalize ((w.alloc (.cells (nodeV kind exec (.slice dA d.length dc) (.slice none 0 0) (.slice none 0 0)) 32)).alloc (.cells #[.int .i64 2, .bool false, .slice none 0 0, .slice none 0 0, .slice none 0 0] 32)) = Wp at *
      clear hba hm0 c5 c6 c3 f5 f6
      generalize hF0e : (fun _ => False : Nat → Prop) = F0 at *
      have hres0 := HR0.out
      simp only [Option.getD_none] at hres0
      clear HR0
      generalize hro : emptyDir = root at *
      have hbxp : Wp.heap[w.heap.size]? = some (.cells #[.int .i64 kind, .bool exec, .slice dA d.length dc, .slice none 0 0, .slice none 0 0] 32 (0, 0)) := hbx
      clear hbx
      have b0 := Lib.cell_of_heap hbxp 0
      have b1 := Lib.cell_of_heap hbxp 1
      have b2 := Lib.cell_of_heap hbxp 2
      have b3 := Lib.cell_of_heap hbxp 3
      have b4 := Lib.cell_of_heap hbxp 4
      simp at b0 b1 b2 b3 b4
      have hmp := h1.kept hbp
      have hDp := hD.kept hbp.size (fun k hk => hbp.block k (hD.lt k hk).2)
      have hsp := splitSl_call p (by omega) (w := Wp.drew) (hg.grown (hbp.trans ((Below.refl _ _).drew)))
      have hrl := (Array.getElem?_eq_some_iff.1 hrx).1
      have hlt1 := h1.lt
      have hbb := h1.base
      have hBp : B ≤ Wp.heap.size := by have := hbp.size; omega
      have hFnr : ∀ k, Fn k → ¬ F0 k ∧ k ≠ w.heap.size + 1 := fun k hk => ⟨fun e => hFn k hk ((h4 k).2 (.inr (.inr (hFG k e)))), fun e => by have := (hD.lt k hk).2; omega⟩
      have hF0r : ¬ F0 (w.heap.size + 1) := fun e => by have := (h3 _ (hFG _ e)).2.1; omega
      have hF0b : ∀ k, F0 k → k < w.heap.size ∧ k ≠ b ∧ sv.ownBlock ≠ some k := fun k hk => ⟨(h3 k (hFG k hk)).2.1, (h3 k (hFG k hk)).2.2⟩
      have hszr : szF root ≤ 50000000 := hszr0
      have hlx := splitSl_mem p hp
      have hl0 := splitSl_pos p
      have hll := splitSl_len p (by omega)
      have hll2 := splitSl_len2 p hp
      have hnbh := heap_alloc_new Wp.drew (.cells (strCells (splitSl p)).toArray 9)
      have hff : ∀ w4 : World, RFrame Wp w4 (w.heap.size + 1) F0 → ∀ k, k < w.heap.size → ¬ (F k ∨ Fn k) → w4.heap[k]? = w.heap[k]? := fun w4 hfr k hk hn => (hfr.block k (Nat.lt_of_lt_of_le hk hbp.size) (by omega) (fun e => hn (.inl ((h4 k).2 (.inr (.inr (hFG k e))))))).trans (hbp.block k hk)
      have hxx : w.heap.size < Wp.heap.size := by omega
      have hxr : w.heap.size ≠ w.heap.size + 1 := by omega
      have hxF : ¬ F0 w.heap.size := fun e => by have := (hF0b _ e).1; omega
      have hnd0 := Lib.hid hres0
      clear hres0
      have hcells := fun (w4 : World) (hfr : RFrame Wp w4 (w.heap.size + 1) F0) => (hfr.block _ hxx hxr hxF).trans hbxp
      have hokT : ∀ t, resF root (splitSl p) (.mk kind exec d [] []) = .ok t → NdEq t := fun t ht => by
        unfold resF at ht
        split at ht
        · cases ht
        · exact (placeF_ok _ _ _ _ hlx hE0 hEq ht).1
      generalize hl : splitSl p = l at *
      clear hl
      cases hres : resF root l (.mk kind exec d [] []) with
      | error x =>
        have hpl := fun (c : Nat) => place_err (c := c) hres ((More.refl Wp).drew.alloc (.cells (strCells l).toArray 9)) hrx hNdp hF0r hBp hE0 hszr hnbh (Nat.le_refl _) hl0 (by omega) hlx hDp hFnr
        have HND := hnd0
        have HFF := Lib.hid hff
        have HCE := Lib.hid hcells
        have HRS := Lib.hid hres
        clear hnd0 hff hcells hres hnbh hmp
        go_region_held3 (fun W => W.cell? ⟨w.heap.size, 0, none⟩ = some (.int .i64 kind) ∧ W.cell? ⟨w.heap.size, 1, none⟩ = some (.bool exec) ∧ W.cell? ⟨w.heap.size, 2, none⟩ = some (.slice dA d.length dc) ∧ W.cell? ⟨w.heap.size, 3, none⟩ = some (.slice none 0 0) ∧ W.cell? ⟨w.heap.size, 4, none⟩ = some (.slice none 0 0))
          (first | go_keep | exact ⟨g0, g1, g2, g3, g4⟩)
          (first
            | (go_at_call 17; refine hsp.mono ?_; rintro e w' ⟨rfl, rfl⟩)
            | (go_at_call 120; refine (hpl _).mono ?_; rintro e w4 ⟨rfl, hfr⟩; have g0 := Lib.cell_of_heap (HCE.out w4 hfr) 0; have g1 := Lib.cell_of_heap (HCE.out w4 hfr) 1; have g2 := Lib.cell_of_heap (HCE.out w4 hfr) 2; have g3 := Lib.cell_of_heap (HCE.out w4 hfr) 3; have g4 := Lib.cell_of_heap (HCE.out w4 hfr) 4))
        go_wp2
        go_ret
        have hrr := HND.out
        rw [HRS.out] at hrr
        rw [hrr]
        exact ⟨rfl, _, ⟨hfr.os.trans hbp.os, hfr.tape.trans hbp.tape, hfr.output.trans hbp.output, Nat.le_trans hbp.size hfr.size, HFF.out w4 hfr, fun k hk => .inl hk⟩, fun s' e => by cases e⟩
      | ok t =>
        have hpl := fun (c : Nat) => place_ok (c := c) hres ((More.refl Wp).drew.alloc (.cells (strCells l).toArray 9)) hrx hNdp hF0r hBp hE0 hszr hnbh (Nat.le_refl _) hl0 (by omega) hlx hDp hFnr
        have hEqt := hokT t hres
        have HND := hnd0
        have HFF := Lib.hid hff
        have HCE := Lib.hid hcells
        have HRS := Lib.hid hres
        clear hnd0 hff hcells hres hnbh hokT
        go_region_held3 (fun W => W.cell? ⟨w.heap.size, 0, none⟩ = some (.int .i64 kind) ∧ W.cell? ⟨w.heap.size, 1, none⟩ = some (.bool exec) ∧ W.cell? ⟨w.heap.size, 2, none⟩ = some (.slice dA d.length dc) ∧ W.cell? ⟨w.heap.size, 3, none⟩ = some (.slice none 0 0) ∧ W.cell? ⟨w.heap.size, 4, none⟩ = some (.slice none 0 0))
          (first | go_keep | exact ⟨g0, g1, g2, g3, g4⟩)
          (first
            | (go_at_call 17; refine hsp.mono ?_; rintro e w' ⟨rfl, rfl⟩)
            | (go_at_call 120; refine (hpl _).mono ?_; rintro e w4 ⟨rfl, hfr, hrt⟩; have g0 := Lib.cell_of_heap (HCE.out w4 hfr) 0; have g1 := Lib.cell_of_heap (HCE.out w4 hfr) 1; have g2 := Lib.cell_of_heap (HCE.out w4 hfr) 2; have g3 := Lib.cell_of_heap (HCE.out w4 hfr) 3; have g4 := Lib.cell_of_heap (HCE.out w4 hfr) 4))
        obtain ⟨F', cs', hc1, hc2, hc3⟩ := hrt
        have hm4 : Mac B b ev av iv most sv s.st (.pointer none) s.bytes s.lb w4 := ⟨h1.base, (hfr.block b (by omega) (by omega) (fun e => (hF0b _ e).2.1 rfl)).trans hmp.blk, ownsRow_of_block hmp.stk (fun k hk => hfr.block k (hmp.stk.lt k hk).2 (fun e => by have := (h1.stk.lt k hk).2; omega) (fun e => (hF0b k e).2.2 hk))⟩
        have k5 := hm4.cell 5
        have k6 := hm4.cell 6
        have k3 := hm4.cell 3
        simp at k5 k6 k3
        have z5 := hm4.frozen 5
        have z6 := hm4.frozen 6
        obtain ⟨ho1, ho2⟩ := hm4.out (.pointer (some ⟨w.heap.size + 1, 0, none⟩)) (s.bytes + d.length)
        have hr4 : (((w4.setCell ⟨b, 5, none⟩ (.pointer (some ⟨w.heap.size + 1, 0, none⟩))).setCell ⟨b, 6, none⟩ (.int .i64 (s.bytes + d.length)))).heap[w.heap.size + 1]? = some (.cells cs' 32 (0, 0)) := (ho2.block _ (Array.getElem?_eq_some_iff.1 hc1).1 (by omega) (fun e => by have := (h1.stk.lt _ e).2; omega)).trans hc1
        have hc2' := hc2.kept ho2.size (fun k hk => ho2.block k (hc2.lt k hk).2 (fun e => by
          rcases hc3 k hk with h | h | h
          · exact (hF0b k h).2.1 e
          · exact hFn k h (by rw [e]; exact hFb)
          · omega) (fun e => by
          rcases hc3 k hk with h | h | h
          · exact (hF0b k h).2.2 e
          · exact hFn k h ((h4 k).2 (.inr (.inl e)))
          · have := (h1.stk.lt k e).2; have := hbp.size; omega))
        have HO := Lib.hid (And.intro ho1 (And.intro ho2 (And.intro hr4 hc2')))
        clear ho1 ho2 hr4 hc2' hc2 hmp hc1
        simp at g0 g1 g2 g3 g4
        go_wp2
        go_region
        go_wp2
        go_region
        go_wp2
        all_goals go_ret
        all_goals obtain ⟨p1, p2, p3, p4⟩ := HO.out
        all_goals have hrr := HND.out
        all_goals rw [HRS.out] at hrr
        all_goals rw [hrr]
        all_goals
          refine StepPost.done (F := fun k => F k ∨ Fn k) (n := .mk kind exec d [] []) (t := t) (N := w.heap.size + 1) (F1 := F') (p1.kept (((Below.refl _ _).drew).drew)) (fun k hk hn => (p2.block k (Nat.lt_of_lt_of_le hk (Nat.le_trans hbp.size hfr.size)) (fun e => hn (.inl (by rw [e]; exact hFb))) (fun e => hn (.inl ((h4 k).2 (.inr (.inl e)))))).trans (HFF.out w4 hfr k hk hn)) (p2.os.trans (hfr.os.trans hbp.os)) (p2.tape.trans (hfr.tape.trans hbp.tape)) (p2.output.trans (hfr.output.trans hbp.output)) (Nat.le_trans hbp.size (Nat.le_trans hfr.size p2.size))
            (fun k hk => .inl ((h4 k).2 (.inr (.inl hk)))) (.inl hFb) cs' p3 p4.drew2 (fun e => ?_) ⟨by omega, fun e => by have := (h1.stk.lt _ e).2; omega, by omega, .inr (by omega)⟩ (fun k hk => ?_) h5 h6 h7 hmost hEqt ?_
        all_goals try (
          rcases hc3 _ e with h | h | h
          · have := (hF0b _ h).1; omega
          · have := (hD.lt _ h).2; omega
          · omega)
        all_goals try (
          rcases hc3 k hk with h | h | h
          · exact ⟨(hF0b k h).2.1, (hF0b k h).2.2, .inl (.inl ((h4 k).2 (.inr (.inr (hFG k h)))))⟩
          · exact ⟨fun e => hFn k h (by rw [e]; exact hFb), fun e => hFn k h ((h4 k).2 (.inr (.inl e))), .inl (.inr h)⟩
          · exact ⟨by omega, fun e => by have := (h1.stk.lt _ e).2; omega, .inr (by omega)⟩)
        · rename_i hc
          rw [show quotaV (s.bytes + (Nd.mk kind exec d [] []).data.length) most = faultV 42 by unfold quotaV; rw [if_pos (by simp only [Nd.data]; omega)]]
          rfl
        · rename_i hc
          rw [show quotaV (s.bytes + (Nd.mk kind exec d [] []).data.length) most = .nilIface by unfold quotaV; rw [if_neg (by simp only [Nd.data]; omega)]]
          rfl
    | some n0 =>
      rw [ho] at h2 hres0 hsz
      obtain ⟨N, cs, F0, rfl, hGN, hN, hNd, hNF, hFG0, hE0⟩ := h2
      have hszr0 : szF n0 ≤ 50000000 := by simp only [outSz] at hsz; omega
      have hNlt := (h3 N hGN).2.1
      obtain ⟨d0, e0, na0, nc0, sa0, sc0, hcs, _⟩ := hNd.is.cells
      have hcs2 : cs = #[.int .i64 n0.kind, .bool n0.exec, .slice d0 n0.data.length e0, .slice na0 n0.names.length nc0, .slice sa0 n0.nodes.length sc0] := by
        apply Array.ext'
        rw [hcs]
      subst hcs2
      have hN2 := (hba.block N hNlt).trans hN
      have n0c := Lib.cell_of_heap hN2 0
      have n1c := Lib.cell_of_heap hN2 1
      have n2c := Lib.cell_of_heap hN2 2
      have n3c := Lib.cell_of_heap hN2 3
      have n4c := Lib.cell_of_heap hN2 4
      simp at n0c n1c n2c n3c n4c
      generalize hk0 : n0.kind = kk at *
      generalize hx0 : n0.exec = xx at *
      generalize hd0 : n0.data.length = dd at *
      generalize hna0 : n0.names.length = nn at *
      generalize hns0 : n0.nodes.length = ss at *
      have HR0 := Lib.hid hres0
      clear hres0 hk0 hx0 hd0 hna0 hns0
      go_enter Tryz.func89, Tryz.ntmps89
      go_wp2_with (fail)
      have hrx := new2_snd w (.cells (nodeV kind exec (.slice dA d.length dc) (.slice none 0 0) (.slice none 0 0)) 32) (.cells #[.int .i64 kk, .bool xx, .slice d0 dd e0, .slice na0 nn nc0, .slice sa0 ss sc0] 32)
      have hbx := new2_fst w (.cells (nodeV kind exec (.slice dA d.length dc) (.slice none 0 0) (.slice none 0 0)) 32) (.cells #[.int .i64 kk, .bool xx, .slice d0 dd e0, .slice na0 nn nc0, .slice sa0 ss sc0] 32)
      have hbp : Below w.heap.size w ((w.alloc (.cells (nodeV kind exec (.slice dA d.length dc) (.slice none 0 0) (.slice none 0 0)) 32)).alloc (.cells #[.int .i64 kk, .bool xx, .slice d0 dd e0, .slice na0 nn nc0, .slice sa0 ss sc0] 32)) := ((Below.refl _ _).alloc (Nat.le_refl _) _).alloc (by simp) _
      have hNdp := hNd.kept hbp.size (fun k hk => hbp.block k (h3 k (hFG0 k hk)).2.1)
      have hFG := hFG0
      generalize ((w.alloc (.cells (nodeV kind exec (.slice dA d.length dc) (.slice none 0 0) (.slice none 0 0)) 32)).alloc (.cells #[.int .i64 kk, .bool xx, .slice d0 dd e0, .slice na0 nn nc0, .slice sa0 ss sc0] 32)) = Wp at *
      clear hba hm0 c5 c6 c3 f5 f6 n0c n1c n2c n3c n4c hN2
      have hres0 := HR0.out
      simp only [Option.getD_some] at hres0
      clear HR0
      generalize hro : n0 = root at *
      have hbxp : Wp.heap[w.heap.size]? = some (.cells #[.int .i64 kind, .bool exec, .slice dA d.length dc, .slice none 0 0, .slice none 0 0] 32 (0, 0)) := hbx
      clear hbx
      have b0 := Lib.cell_of_heap hbxp 0
      have b1 := Lib.cell_of_heap hbxp 1
      have b2 := Lib.cell_of_heap hbxp 2
      have b3 := Lib.cell_of_heap hbxp 3
      have b4 := Lib.cell_of_heap hbxp 4
      simp at b0 b1 b2 b3 b4
      have hmp := h1.kept hbp
      have hDp := hD.kept hbp.size (fun k hk => hbp.block k (hD.lt k hk).2)
      have hsp := splitSl_call p (by omega) (w := Wp.drew) (hg.grown (hbp.trans ((Below.refl _ _).drew)))
      have hrl := (Array.getElem?_eq_some_iff.1 hrx).1
      have hlt1 := h1.lt
      have hbb := h1.base
      have hBp : B ≤ Wp.heap.size := by have := hbp.size; omega
      have hFnr : ∀ k, Fn k → ¬ F0 k ∧ k ≠ w.heap.size + 1 := fun k hk => ⟨fun e => hFn k hk ((h4 k).2 (.inr (.inr (hFG k e)))), fun e => by have := (hD.lt k hk).2; omega⟩
      have hF0r : ¬ F0 (w.heap.size + 1) := fun e => by have := (h3 _ (hFG _ e)).2.1; omega
      have hF0b : ∀ k, F0 k → k < w.heap.size ∧ k ≠ b ∧ sv.ownBlock ≠ some k := fun k hk => ⟨(h3 k (hFG k hk)).2.1, (h3 k (hFG k hk)).2.2⟩
      have hszr : szF root ≤ 50000000 := hszr0
      have hlx := splitSl_mem p hp
      have hl0 := splitSl_pos p
      have hll := splitSl_len p (by omega)
      have hll2 := splitSl_len2 p hp
      have hnbh := heap_alloc_new Wp.drew (.cells (strCells (splitSl p)).toArray 9)
      have hff : ∀ w4 : World, RFrame Wp w4 (w.heap.size + 1) F0 → ∀ k, k < w.heap.size → ¬ (F k ∨ Fn k) → w4.heap[k]? = w.heap[k]? := fun w4 hfr k hk hn => (hfr.block k (Nat.lt_of_lt_of_le hk hbp.size) (by omega) (fun e => hn (.inl ((h4 k).2 (.inr (.inr (hFG k e))))))).trans (hbp.block k hk)
      have hxx : w.heap.size < Wp.heap.size := by omega
      have hxr : w.heap.size ≠ w.heap.size + 1 := by omega
      have hxF : ¬ F0 w.heap.size := fun e => by have := (hF0b _ e).1; omega
      have hnd0 := Lib.hid hres0
      clear hres0
      have hcells := fun (w4 : World) (hfr : RFrame Wp w4 (w.heap.size + 1) F0) => (hfr.block _ hxx hxr hxF).trans hbxp
      have hokT : ∀ t, resF root (splitSl p) (.mk kind exec d [] []) = .ok t → NdEq t := fun t ht => by
        unfold resF at ht
        split at ht
        · cases ht
        · exact (placeF_ok _ _ _ _ hlx hE0 hEq ht).1
      generalize hl : splitSl p = l at *
      clear hl
      cases hres : resF root l (.mk kind exec d [] []) with
      | error x =>
        have hpl := fun (c : Nat) => place_err (c := c) hres ((More.refl Wp).drew.alloc (.cells (strCells l).toArray 9)) hrx hNdp hF0r hBp hE0 hszr hnbh (Nat.le_refl _) hl0 (by omega) hlx hDp hFnr
        have HND := hnd0
        have HFF := Lib.hid hff
        have HCE := Lib.hid hcells
        have HRS := Lib.hid hres
        clear hnd0 hff hcells hres hnbh hmp
        go_region_held3 (fun W => W.cell? ⟨w.heap.size, 0, none⟩ = some (.int .i64 kind) ∧ W.cell? ⟨w.heap.size, 1, none⟩ = some (.bool exec) ∧ W.cell? ⟨w.heap.size, 2, none⟩ = some (.slice dA d.length dc) ∧ W.cell? ⟨w.heap.size, 3, none⟩ = some (.slice none 0 0) ∧ W.cell? ⟨w.heap.size, 4, none⟩ = some (.slice none 0 0))
          (first | go_keep | exact ⟨g0, g1, g2, g3, g4⟩)
          (first
            | (go_at_call 17; refine hsp.mono ?_; rintro e w' ⟨rfl, rfl⟩)
            | (go_at_call 120; refine (hpl _).mono ?_; rintro e w4 ⟨rfl, hfr⟩; have g0 := Lib.cell_of_heap (HCE.out w4 hfr) 0; have g1 := Lib.cell_of_heap (HCE.out w4 hfr) 1; have g2 := Lib.cell_of_heap (HCE.out w4 hfr) 2; have g3 := Lib.cell_of_heap (HCE.out w4 hfr) 3; have g4 := Lib.cell_of_heap (HCE.out w4 hfr) 4))
        go_wp2
        go_ret
        have hrr := HND.out
        rw [HRS.out] at hrr
        rw [hrr]
        exact ⟨rfl, _, ⟨hfr.os.trans hbp.os, hfr.tape.trans hbp.tape, hfr.output.trans hbp.output, Nat.le_trans hbp.size hfr.size, HFF.out w4 hfr, fun k hk => .inl hk⟩, fun s' e => by cases e⟩
      | ok t =>
        have hpl := fun (c : Nat) => place_ok (c := c) hres ((More.refl Wp).drew.alloc (.cells (strCells l).toArray 9)) hrx hNdp hF0r hBp hE0 hszr hnbh (Nat.le_refl _) hl0 (by omega) hlx hDp hFnr
        have hEqt := hokT t hres
        have HND := hnd0
        have HFF := Lib.hid hff
        have HCE := Lib.hid hcells
        have HRS := Lib.hid hres
        clear hnd0 hff hcells hres hnbh hokT
        go_region_held3 (fun W => W.cell? ⟨w.heap.size, 0, none⟩ = some (.int .i64 kind) ∧ W.cell? ⟨w.heap.size, 1, none⟩ = some (.bool exec) ∧ W.cell? ⟨w.heap.size, 2, none⟩ = some (.slice dA d.length dc) ∧ W.cell? ⟨w.heap.size, 3, none⟩ = some (.slice none 0 0) ∧ W.cell? ⟨w.heap.size, 4, none⟩ = some (.slice none 0 0))
          (first | go_keep | exact ⟨g0, g1, g2, g3, g4⟩)
          (first
            | (go_at_call 17; refine hsp.mono ?_; rintro e w' ⟨rfl, rfl⟩)
            | (go_at_call 120; refine (hpl _).mono ?_; rintro e w4 ⟨rfl, hfr, hrt⟩; have g0 := Lib.cell_of_heap (HCE.out w4 hfr) 0; have g1 := Lib.cell_of_heap (HCE.out w4 hfr) 1; have g2 := Lib.cell_of_heap (HCE.out w4 hfr) 2; have g3 := Lib.cell_of_heap (HCE.out w4 hfr) 3; have g4 := Lib.cell_of_heap (HCE.out w4 hfr) 4))
        obtain ⟨F', cs', hc1, hc2, hc3⟩ := hrt
        have hm4 : Mac B b ev av iv most sv s.st (.pointer (some ⟨N, 0, none⟩)) s.bytes s.lb w4 := ⟨h1.base, (hfr.block b (by omega) (by omega) (fun e => (hF0b _ e).2.1 rfl)).trans hmp.blk, ownsRow_of_block hmp.stk (fun k hk => hfr.block k (hmp.stk.lt k hk).2 (fun e => by have := (h1.stk.lt k hk).2; omega) (fun e => (hF0b k e).2.2 hk))⟩
        have k5 := hm4.cell 5
        have k6 := hm4.cell 6
        have k3 := hm4.cell 3
        simp at k5 k6 k3
        have z5 := hm4.frozen 5
        have z6 := hm4.frozen 6
        obtain ⟨ho1, ho2⟩ := hm4.out (.pointer (some ⟨w.heap.size + 1, 0, none⟩)) (s.bytes + d.length)
        have hr4 : (((w4.setCell ⟨b, 5, none⟩ (.pointer (some ⟨w.heap.size + 1, 0, none⟩))).setCell ⟨b, 6, none⟩ (.int .i64 (s.bytes + d.length)))).heap[w.heap.size + 1]? = some (.cells cs' 32 (0, 0)) := (ho2.block _ (Array.getElem?_eq_some_iff.1 hc1).1 (by omega) (fun e => by have := (h1.stk.lt _ e).2; omega)).trans hc1
        have hc2' := hc2.kept ho2.size (fun k hk => ho2.block k (hc2.lt k hk).2 (fun e => by
          rcases hc3 k hk with h | h | h
          · exact (hF0b k h).2.1 e
          · exact hFn k h (by rw [e]; exact hFb)
          · omega) (fun e => by
          rcases hc3 k hk with h | h | h
          · exact (hF0b k h).2.2 e
          · exact hFn k h ((h4 k).2 (.inr (.inl e)))
          · have := (h1.stk.lt k e).2; have := hbp.size; omega))
        have HO := Lib.hid (And.intro ho1 (And.intro ho2 (And.intro hr4 hc2')))
        clear ho1 ho2 hr4 hc2' hc2 hmp hc1
        simp at g0 g1 g2 g3 g4
        go_wp2
        go_region
        go_wp2
        go_region
        go_wp2
        all_goals go_ret
        all_goals obtain ⟨p1, p2, p3, p4⟩ := HO.out
        all_goals have hrr := HND.out
        all_goals rw [HRS.out] at hrr
        all_goals rw [hrr]
        all_goals
          refine StepPost.done (F := fun k => F k ∨ Fn k) (n := .mk kind exec d [] []) (t := t) (N := w.heap.size + 1) (F1 := F') (p1.kept (((Below.refl _ _).drew).drew)) (fun k hk hn => (p2.block k (Nat.lt_of_lt_of_le hk (Nat.le_trans hbp.size hfr.size)) (fun e => hn (.inl (by rw [e]; exact hFb))) (fun e => hn (.inl ((h4 k).2 (.inr (.inl e)))))).trans (HFF.out w4 hfr k hk hn)) (p2.os.trans (hfr.os.trans hbp.os)) (p2.tape.trans (hfr.tape.trans hbp.tape)) (p2.output.trans (hfr.output.trans hbp.output)) (Nat.le_trans hbp.size (Nat.le_trans hfr.size p2.size))
            (fun k hk => .inl ((h4 k).2 (.inr (.inl hk)))) (.inl hFb) cs' p3 p4.drew2 (fun e => ?_) ⟨by omega, fun e => by have := (h1.stk.lt _ e).2; omega, by omega, .inr (by omega)⟩ (fun k hk => ?_) h5 h6 h7 hmost hEqt ?_
        all_goals try (
          rcases hc3 _ e with h | h | h
          · have := (hF0b _ h).1; omega
          · have := (hD.lt _ h).2; omega
          · omega)
        all_goals try (
          rcases hc3 k hk with h | h | h
          · exact ⟨(hF0b k h).2.1, (hF0b k h).2.2, .inl (.inl ((h4 k).2 (.inr (.inr (hFG k h)))))⟩
          · exact ⟨fun e => hFn k h (by rw [e]; exact hFb), fun e => hFn k h ((h4 k).2 (.inr (.inl e))), .inl (.inr h)⟩
          · exact ⟨by omega, fun e => by have := (h1.stk.lt _ e).2; omega, .inr (by omega)⟩)
        · rename_i hc
          rw [show quotaV (s.bytes + (Nd.mk kind exec d [] []).data.length) most = faultV 42 by unfold quotaV; rw [if_pos (by simp only [Nd.data]; omega)]]
          rfl
        · rename_i hc
          rw [show quotaV (s.bytes + (Nd.mk kind exec d [] []).data.length) most = .nilIface by unfold quotaV; rw [if_neg (by simp only [Nd.data]; omega)]]
          rfl

set_option maxHeartbeats 2000000 in
set_option maxRecDepth 100000 in
theorem vm_pair2 (h : MIs B b ev av iv most F s w) (hg : Glob w) (hgB : Tryz.prog.globals.size ≤ B) (hmost : most ≤ 1048576) (kind : Int) (exec : Bool) (st : List (List UInt8)) (p y : List UInt8) (hs : s.st = st ++ [p, y]) (hsz : outSz s.out ≤ 40000000) :
    Calls Tryz.prog 88 #[.pointer (some ⟨b, 0, none⟩), .agg (nodeV kind exec (.slice none 0 0) (.slice none 0 0) (.slice none 0 0))] w (StepPost (emitF most { s with st := st } p (.mk kind exec y [] [])) B b ev av iv most F w) := by
  have hall := h
  obtain ⟨sv, ov, G, h1, h2, h3, h4, h5, h6, h7⟩ := h
  rw [hs] at h1 h5
  have hy := h5.2 y (by simp)
  have hp := h5.2 p (by simp)
  have hst := h5.1
  have kc := fun (W : World) => Lib.run_convert_string_bytes (P := Tryz.prog) W 9 29 5 (bs y) Tryz.underlying9 Tryz.underlying29 Tryz.underlying5
  have hb0' : Below w.heap.size w (w.alloc (.cells (nodeV kind exec (.slice none 0 0) (.slice none 0 0) (.slice none 0 0)) 32)) := (Below.refl w.heap.size w).alloc (Nat.le_refl _) _
  have h0 := h1.kept hb0'
  have hlt := h1.lt
  generalize hr : emitF most { s with st := st } p (.mk kind exec y [] []) = res
  have HR := Lib.hid hr
  clear hr hs
  go_enter Tryz.func88, Tryz.ntmps88
  go_wp2_with (go_at_call 77; refine (vm_take st [p, y] h0 (by simp) hst 2 rfl).mono ?_)
  rintro e w1 ⟨g, c, sv', rfl, ⟨hg0, hg1, hg2, hg3⟩, hc, hm, hmv⟩
  have c0 := hc 0 _ rfl
  have c1 := hc 1 _ rfl
  have hnb : w1.heap[w.heap.size]? = some (.cells (nodeV kind exec (.slice none 0 0) (.slice none 0 0) (.slice none 0 0)) 32 (0, 0)) := by
    rw [hmv.block w.heap.size (by simp) (by omega) (fun e => by have := h1.stk.lt _ e; omega)]; exact heap_alloc_new w _
  have hgn : w.heap.size < g := by simp at hg0; omega
  have hn1 : w.heap.size < w1.heap.size := (Array.getElem?_eq_some_iff.1 hnb).1
  have hsvN : sv'.ownBlock ≠ some w.heap.size := fun e => by
    rcases hmv.fresh _ e with h1' | h1'
    · have := h1.stk.lt _ h1'; omega
    · simp at h1'; omega
  have HK := Lib.hid (Moved.trans (Moved.of_below (b := b) (sv := sv) hb0') hmv)
  clear hc hmv
  have hbb := Go.Joins.below_bytesWorld w1.heap.size w1 5 (bs y) (Nat.le_refl _)
  have hnb2 := (hbb.block _ hn1).trans hnb
  have n2 := Lib.cell_of_heap hnb2 2
  have fn2 := Lib.frozen_of_heap hnb2 2
  simp at n2
  go_wp2
  generalize hV : (Value.slice (some { block := w1.heap.size, off := 0 }) y.length (grownCap w1 y.length 0 5)) = vd
  have hs2 : ∀ k, k ≠ w.heap.size → ((Lib.bytesWorld w1 5 (bs y)).setCell { block := w.heap.size, off := 2 } vd).heap[k]? = (Lib.bytesWorld w1 5 (bs y)).heap[k]? := fun k hk => Below.heap_setCell _ _ _ _ hk
  have hN2 : ((Lib.bytesWorld w1 5 (bs y)).setCell { block := w.heap.size, off := 2 } vd).heap[w.heap.size]? = some (.cells (nodeV kind exec vd (.slice none 0 0) (.slice none 0 0)) 32 (0, 0)) := set_same hnb2 rfl
  have hszb : ((Lib.bytesWorld w1 5 (bs y)).setCell { block := w.heap.size, off := 2 } vd).heap.size = w1.heap.size + 1 := by simp [World.setCell, Lib.bytesWorld_size]
  have hos : ((Lib.bytesWorld w1 5 (bs y)).setCell { block := w.heap.size, off := 2 } vd).os = w1.os := hbb.os
  have hta : ((Lib.bytesWorld w1 5 (bs y)).setCell { block := w.heap.size, off := 2 } vd).tape = w1.tape := hbb.tape
  have hou : ((Lib.bytesWorld w1 5 (bs y)).setCell { block := w.heap.size, off := 2 } vd).output = w1.output := hbb.output
  generalize hw2 : (Lib.bytesWorld w1 5 (bs y)).setCell { block := w.heap.size, off := 2 } vd = w2 at *
  have hold : ∀ k, k < w1.heap.size → k ≠ w.heap.size → w2.heap[k]? = w1.heap[k]? := fun k hk hn => (hs2 k hn).trans (hbb.block k hk)
  have hm2 : Mac B b ev av iv most sv' st ov s.bytes s.lb w2 := ⟨hm.base, (hold b hm.lt (by omega)).trans hm.blk, hm.stk.kept (row := some w.heap.size) ⟨hos, hta, hou, by omega, fun k hk hn => hold k hk (fun e => hn (by simp [e]))⟩ (Or.inr hsvN)⟩
  have hmv2 : Moved b sv sv' w w2 := HK.out.side hos hta hou (by omega) (fun k hk => hold k (by omega) (by omega))
  have hdat : BytesAt w1.heap.size vd y w2 := by
    subst hV
    refine ⟨w1.heap.size, _, rfl, Nat.le_refl _, by omega, fun j x hx => ?_⟩
    rw [World.cell?_of_block (hs2 w1.heap.size (by omega)), Lib.bytesWorld_cell w1 _ (bs y) j (by rw [bs_size]; exact (List.getElem?_eq_some_iff.1 hx).1)]
    simp [List.getD, hx]
  have hgc : w2.cell? ⟨g, 0, none⟩ = some (.string (bs p)) := (World.cell?_of_block (hold g hg1 (by omega))).trans c0
  have n0 := Lib.cell_of_heap hN2 0
  have n1 := Lib.cell_of_heap hN2 1
  have n2' := Lib.cell_of_heap hN2 2
  have n3 := Lib.cell_of_heap hN2 3
  have n4 := Lib.cell_of_heap hN2 4
  simp at n0 n1 n2' n3 n4
  obtain ⟨gd, cd, hvd, hd1, hd2, hd3⟩ := hdat
  have hF1 : ∀ k, (k = b ∨ sv'.ownBlock = some k ∨ G k) → k < w2.heap.size ∧ (F k ∨ w.heap.size ≤ k) := fun k hk => by
    rcases hk with h | h | h
    · subst h; exact ⟨by have := hm.lt; omega, .inl ((h4 _).2 (.inl rfl))⟩
    · refine ⟨(hm2.stk.lt k h).2, ?_⟩
      rcases hmv2.fresh k h with h' | h'
      · exact .inl ((h4 k).2 (.inr (.inl h')))
      · exact .inr h'
    · exact ⟨by have := (h3 k h).2.1; omega, .inl ((h4 k).2 (.inr (.inr h)))⟩
  have hgF : ¬ (g = b ∨ sv'.ownBlock = some g ∨ G g) := fun e => by
    rcases e with h | h | h
    · exact hg2 h
    · exact hg3 h
    · have := (h3 g h).2.1; omega
  have hxF : ¬ (w.heap.size = b ∨ sv'.ownBlock = some w.heap.size ∨ G w.heap.size) := fun e => by
    rcases e with h | h | h
    · omega
    · exact hsvN h
    · have := (h3 _ h).2.1; omega
  have hM2 : MIs B b ev av iv most (fun k => k = b ∨ sv'.ownBlock = some k ∨ G k) { s with st := st } w2 := by
    refine ⟨sv', ov, G, hm2, h2.kept hmv2.size (fun k hk => hmv2.block k (h3 k hk).2.1 (h3 k hk).2.2.1 (h3 k hk).2.2.2), fun k hk => ⟨(h3 k hk).1, Nat.lt_of_lt_of_le (h3 k hk).2.1 hmv2.size, (h3 k hk).2.2.1, fun e => ?_⟩, fun k => Iff.rfl, h5.left, h6, h7⟩
    rcases hmv2.fresh k e with h' | h'
    · exact (h3 k hk).2.2.2 h'
    · have := (h3 k hk).2.1; omega
  have hSF : SFrame F (fun k => (k = b ∨ sv'.ownBlock = some k ∨ G k) ∨ k = gd) w w2 := ⟨hmv2.os, hmv2.tape, hmv2.output, hmv2.size, fun k hk hn => hmv2.block k hk (fun e => hn ((h4 k).2 (.inl e))) (fun e => hn ((h4 k).2 (.inr (.inl e)))), fun k hk => by
    rcases hk with h | h
    · exact (hF1 k h).2
    · exact .inr (by omega)⟩
  have hgd0 : ∀ k, k = gd → ¬ (k = b ∨ sv'.ownBlock = some k ∨ G k) := fun k hk e => by
    subst hk
    rcases e with h | h | h
    · have := hm.lt; omega
    · have := (hm.stk.lt _ h).2; omega
    · have := (h3 _ h).2.1; omega
  have hbl := hm.base
  have hDn : NdO B w2 (.mk kind exec y [] []) (fun k => k = gd) [.int .i64 kind, .bool exec, .slice (some ⟨gd, 0, none⟩) y.length cd, .slice none 0 0, .slice none 0 0] := by
    simp only [NdO, NdsO]
    refine ⟨_, _, _, fun k => k = gd, fun _ => False, [], rfl, ⟨by unfold maxLen; omega, _, _, rfl, fun _ => ⟨gd, 0, rfl, rfl, by simp [byteCells], fun j x hx => ?_⟩⟩, fun k hk => by subst hk; exact ⟨by omega, hd2⟩, World.ownsRow_nil _ _ _ _, World.ownsRow_nil _ _ _ _, ⟨rfl, fun _ h => h⟩, fun _ h => by simp [Value.ownBlock] at h, fun _ h => by simp [Value.ownBlock] at h, fun _ _ h => h, fun k => by simp [Value.ownBlock]⟩
    obtain ⟨u, hu, rfl⟩ := (by
      unfold byteCells at hx
      rw [List.getElem?_map] at hx
      cases hy' : y[j]? with
      | none => rw [hy'] at hx; cases hx
      | some u => rw [hy'] at hx; injection hx with hx; exact ⟨u, rfl, hx.symm⟩ : ∃ u, y[j]? = some u ∧ x = .int .u8 u.toNat)
    rw [Nat.zero_add]
    exact hd3 j u hu
  have hSFd := hSF.trans (SFrame.of_below (F := fun k => (k = b ∨ sv'.ownBlock = some k ∨ G k) ∨ k = gd) ((Below.refl w2.heap.size w2).drew))
  have HSF := Lib.hid hSFd
  have HGF := Lib.hid hgF
  have HXF := Lib.hid hxF
  have HMv := Lib.hid hmv2.size
  have hgw : w2.heap.size = w1.heap.size + 1 := hszb
  have hgl : Glob w2.drew := hg.below ((hSFd.below (fun k hk => (hall.foot k hk).1) (by omega))) hgB
  have hg1' : g < w2.heap.size ∧ g ≠ gd ∧ w.heap.size < w2.heap.size ∧ w.heap.size ≠ gd := ⟨by omega, by omega, by omega, by omega⟩
  clear hw2 hs2 hN2 hold hos hta hou hmv2 n2 fn2 hnb2 hbb hnb c0 c1 kc h0 hb0' hSF hSFd hF1 hV hgF hxF
  subst hvd
  have hemit := vm_emit (w := w2.drew) (hM2.kept (Below.refl _ _).drew) hgl hgB hmost p hp kind exec y (some ⟨gd, 0, none⟩) cd (Fn := fun k => k = gd) (NdO.kept (w := w2) (w' := w2.drew) (show w2.heap.size ≤ w2.drew.heap.size from Nat.le_refl w2.heap.size) hDn (fun _ _ => rfl)) hgd0 hsz hy
  rw [HR.out] at hemit
  clear hM2 hDn hgd0
  go_region_held3 (fun w' => w'.cell? ⟨g, 0, none⟩ = some (.string (bs p)) ∧ w'.cell? ⟨w.heap.size, 0, none⟩ = some (.int .i64 kind) ∧ w'.cell? ⟨w.heap.size, 1, none⟩ = some (.bool exec) ∧ w'.cell? ⟨w.heap.size, 2, none⟩ = some (.slice (some ⟨gd, 0, none⟩) y.length cd) ∧ w'.cell? ⟨w.heap.size, 3, none⟩ = some (.slice none 0 0) ∧ w'.cell? ⟨w.heap.size, 4, none⟩ = some (.slice none 0 0))
    (first | go_keep | exact ⟨(World.cell?_of_block gk).trans hgc, (World.cell?_of_block xk).trans n0, (World.cell?_of_block xk).trans n1, (World.cell?_of_block xk).trans n2', (World.cell?_of_block xk).trans n3, (World.cell?_of_block xk).trans n4⟩)
    ((go_at_call 89; refine hemit.mono ?_; rintro e w3 ⟨rfl, F3, hS3, hM3⟩; have gk := hS3.block g hg1'.1 (fun e => e.elim HGF.out hg1'.2.1); have xk := hS3.block w.heap.size hg1'.2.2.1 (fun e => e.elim HXF.out hg1'.2.2.2)))
  go_wp2
  go_ret
  exact ⟨rfl, F3, HSF.out.trans hS3, hM3⟩
theorem vm_file2 (h : MIs B b ev av iv most F s w) (hg : Glob w) (hgB : Tryz.prog.globals.size ≤ B) (hmost : most ≤ 1048576) (st : List (List UInt8)) (p y : List UInt8) (hs : s.st = st ++ [p, y]) (hsz : outSz s.out ≤ 40000000) (t : ByteArray) :
    Calls Tryz.prog 50 #[.pointer (some ⟨b, 0, none⟩), .string t] w (StepPost (emitF most { s with st := st } p (.mk 1 false y [] [])) B b ev av iv most F w) := by
  have hp := vm_pair2 h hg hgB hmost 1 false st p y hs hsz
  generalize emitF most { s with st := st } p (.mk 1 false y [] []) = r at *
  go_enter Tryz.func50, Tryz.ntmps50
  go_wp2_with (go_at_call 88; refine hp.mono ?_; rintro e w1 ⟨rfl, hq⟩)
  go_ret
  exact ⟨rfl, hq⟩
theorem vm_exec2 (h : MIs B b ev av iv most F s w) (hg : Glob w) (hgB : Tryz.prog.globals.size ≤ B) (hmost : most ≤ 1048576) (st : List (List UInt8)) (p y : List UInt8) (hs : s.st = st ++ [p, y]) (hsz : outSz s.out ≤ 40000000) (t : ByteArray) :
    Calls Tryz.prog 51 #[.pointer (some ⟨b, 0, none⟩), .string t] w (StepPost (emitF most { s with st := st } p (.mk 1 true y [] [])) B b ev av iv most F w) := by
  have hp := vm_pair2 h hg hgB hmost 1 true st p y hs hsz
  generalize emitF most { s with st := st } p (.mk 1 true y [] []) = r at *
  go_enter Tryz.func51, Tryz.ntmps51
  go_wp2_with (go_at_call 88; refine hp.mono ?_; rintro e w1 ⟨rfl, hq⟩)
  go_ret
  exact ⟨rfl, hq⟩
theorem vm_link2 (h : MIs B b ev av iv most F s w) (hg : Glob w) (hgB : Tryz.prog.globals.size ≤ B) (hmost : most ≤ 1048576) (st : List (List UInt8)) (p y : List UInt8) (hs : s.st = st ++ [p, y]) (hsz : outSz s.out ≤ 40000000) (t : ByteArray) :
    Calls Tryz.prog 53 #[.pointer (some ⟨b, 0, none⟩), .string t] w (StepPost (emitF most { s with st := st } p (.mk 3 false y [] [])) B b ev av iv most F w) := by
  have hp := vm_pair2 h hg hgB hmost 3 false st p y hs hsz
  generalize emitF most { s with st := st } p (.mk 3 false y [] []) = r at *
  go_enter Tryz.func53, Tryz.ntmps53
  go_wp2_with (go_at_call 88; refine hp.mono ?_; rintro e w1 ⟨rfl, hq⟩)
  go_ret
  exact ⟨rfl, hq⟩

set_option maxHeartbeats 1000000 in
set_option maxRecDepth 100000 in
theorem vm_pair_few (h : MIs B b ev av iv most F s w) (hl : s.st.length < 2) (kind : Int) (exec : Bool) :
    Calls Tryz.prog 88 #[.pointer (some ⟨b, 0, none⟩), .agg (nodeV kind exec (.slice none 0 0) (.slice none 0 0) (.slice none 0 0))] w (StepPost (.error 40) B b ev av iv most F w) := by
  obtain ⟨sv, ov, G, h1, _⟩ := h
  have hba : Below w.heap.size w (w.alloc (.cells (nodeV kind exec (.slice none 0 0) (.slice none 0 0) (.slice none 0 0)) 32)) := (Below.refl w.heap.size w).alloc (Nat.le_refl _) _
  have h0 := h1.kept hba
  have ht := vm_take_few h0 2 (by omega) (by omega)
  go_enter Tryz.func88, Tryz.ntmps88
  go_wp2_with (go_at_call 77; refine ht.mono ?_; rintro e w1 ⟨rfl, rfl⟩)
  go_ret
  exact ⟨rfl, F, SFrame.of_below hba, fun s' e => by cases e⟩
theorem vm_file_few (h : MIs B b ev av iv most F s w) (hl : s.st.length < 2) (t : ByteArray) :
    Calls Tryz.prog 50 #[.pointer (some ⟨b, 0, none⟩), .string t] w (StepPost (.error 40) B b ev av iv most F w) := by
  have hp := vm_pair_few h hl 1 false
  go_enter Tryz.func50, Tryz.ntmps50
  go_wp2_with (go_at_call 88; refine hp.mono ?_; rintro e w1 ⟨rfl, hq⟩)
  go_ret
  exact ⟨rfl, hq⟩
theorem vm_exec_few (h : MIs B b ev av iv most F s w) (hl : s.st.length < 2) (t : ByteArray) :
    Calls Tryz.prog 51 #[.pointer (some ⟨b, 0, none⟩), .string t] w (StepPost (.error 40) B b ev av iv most F w) := by
  have hp := vm_pair_few h hl 1 true
  go_enter Tryz.func51, Tryz.ntmps51
  go_wp2_with (go_at_call 88; refine hp.mono ?_; rintro e w1 ⟨rfl, hq⟩)
  go_ret
  exact ⟨rfl, hq⟩
theorem vm_link_few (h : MIs B b ev av iv most F s w) (hl : s.st.length < 2) (t : ByteArray) :
    Calls Tryz.prog 53 #[.pointer (some ⟨b, 0, none⟩), .string t] w (StepPost (.error 40) B b ev av iv most F w) := by
  have hp := vm_pair_few h hl 3 false
  go_enter Tryz.func53, Tryz.ntmps53
  go_wp2_with (go_at_call 88; refine hp.mono ?_; rintro e w1 ⟨rfl, hq⟩)
  go_ret
  exact ⟨rfl, hq⟩

set_option maxHeartbeats 1000000 in
set_option maxRecDepth 100000 in
theorem vm_dir_few (h : MIs B b ev av iv most F s w) (hl : s.st.length < 1) (t : ByteArray) :
    Calls Tryz.prog 52 #[.pointer (some ⟨b, 0, none⟩), .string t] w (StepPost (.error 40) B b ev av iv most F w) := by
  obtain ⟨sv, ov, G, h1, _⟩ := h
  have ht := vm_take_few h1 1 (by omega) (by omega)
  go_enter Tryz.func52, Tryz.ntmps52
  go_wp2_with (go_at_call 77; refine ht.mono ?_; rintro e w1 ⟨rfl, rfl⟩)
  go_ret
  exact ⟨rfl, F, SFrame.refl F w, fun s' e => by cases e⟩

set_option maxHeartbeats 1000000 in
set_option maxRecDepth 100000 in
theorem vm_dir2 (h : MIs B b ev av iv most F s w) (hg : Glob w) (hgB : Tryz.prog.globals.size ≤ B) (hmost : most ≤ 1048576) (st : List (List UInt8)) (p : List UInt8) (hs : s.st = st ++ [p]) (hsz : outSz s.out ≤ 40000000) (t : ByteArray) :
    Calls Tryz.prog 52 #[.pointer (some ⟨b, 0, none⟩), .string t] w (StepPost (emitF most { s with st := st } p emptyDir) B b ev av iv most F w) := by
  have hall := h
  obtain ⟨sv, ov, G, h1, h2, h3, h4, h5, h6, h7⟩ := h
  rw [hs] at h1 h5
  have hp := h5.2 p (by simp)
  have hst := h5.1
  have hlt := h1.lt
  generalize hr : emitF most { s with st := st } p emptyDir = res
  have HR := Lib.hid hr
  clear hr hs
  go_enter Tryz.func52, Tryz.ntmps52
  go_wp2_with (go_at_call 77; refine (vm_take st [p] h1 (by simp) hst 1 rfl).mono ?_)
  rintro e w1 ⟨g, c, sv', rfl, ⟨hg0, hg1, hg2, hg3⟩, hc, hm, hmv⟩
  have c0 := hc 0 _ rfl
  have hM1 : MIs B b ev av iv most (fun k => k = b ∨ sv'.ownBlock = some k ∨ G k) { s with st := st } w1 := by
    refine ⟨sv', ov, G, hm, h2.kept hmv.size (fun k hk => hmv.block k (h3 k hk).2.1 (h3 k hk).2.2.1 (h3 k hk).2.2.2), fun k hk => ⟨(h3 k hk).1, Nat.lt_of_lt_of_le (h3 k hk).2.1 hmv.size, (h3 k hk).2.2.1, fun e => ?_⟩, fun k => Iff.rfl, h5.left, h6, h7⟩
    rcases hmv.fresh k e with h' | h'
    · exact (h3 k hk).2.2.2 h'
    · have := (h3 k hk).2.1; omega
  have hSF : SFrame F (fun k => (k = b ∨ sv'.ownBlock = some k ∨ G k) ∨ False) w w1 := ⟨hmv.os, hmv.tape, hmv.output, hmv.size, fun k hk hn => hmv.block k hk (fun e => hn ((h4 k).2 (.inl e))) (fun e => hn ((h4 k).2 (.inr (.inl e)))), fun k hk => by
    rcases hk with (h | h | h) | h
    · subst h; exact .inl ((h4 _).2 (.inl rfl))
    · rcases hmv.fresh k h with h' | h'
      · exact .inl ((h4 k).2 (.inr (.inl h')))
      · exact .inr h'
    · exact .inl ((h4 k).2 (.inr (.inr h)))
    · exact h.elim⟩
  have hbl := h1.base
  have hgl : Glob w1 := hg.below ((hSF.below (fun k hk => (hall.foot k hk).1) (by omega))) hgB
  have hemit := fun (W : World) (hW : Below w1.heap.size w1 W) (hN : NdO B W (.mk 2 false [] [] []) (fun _ => False) [.int .i64 2, .bool false, .slice none ([] : List UInt8).length 0, .slice none 0 0, .slice none 0 0]) => vm_emit (w := W) (hM1.kept hW) (hgl.grown hW) hgB hmost p hp 2 false [] none 0 (Fn := fun _ => False) hN (fun _ h => h.elim) hsz (by simp)
  have hemit2 := fun (W : World) (hW : Below w1.heap.size w1 W) => hemit W hW (emptyDir_own B W)
  have he0 : (Nd.mk 2 false [] [] [] : Nd) = emptyDir := rfl
  rw [he0, HR.out] at hemit2
  have HSF := Lib.hid hSF
  clear hM1 hSF hemit he0 hc hmv
  simp only [List.length_nil] at hemit2
  go_wp2_with (go_at_call 89; refine (hemit2 _ (by first | exact Below.refl _ _ | exact (Below.refl _ _).drew)).mono ?_)
  rintro e w3 ⟨rfl, F3, hS3, hM3⟩
  go_wp2
  go_ret
  exact ⟨rfl, F3, HSF.out.trans hS3, hM3⟩
end
end Go.Proofs.YtejpkjcjoengbaaGreatDoor
