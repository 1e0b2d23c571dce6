/-
  The law VmApart, by walk.
-/
import Derived.Test.YtejpkjcjoengbaaGreatDoorLawV
set_option linter.unusedVariables false
set_option linter.unusedSimpArgs false
namespace Go.Proofs.YtejpkjcjoengbaaGreatDoor
open Go.RowKit

theorem infoIn : (Tryz.prog.info? 43).map (fun i => (i.zero, i.size, i.bytes)) = some (some (.agg #[.string ⟨#[]⟩, .int .i64 0, .bool false, .slice none 0 0, .slice none 0 0, .slice none 0 0]), 6, 104) := by kernel_rfl
theorem addr_plus (g o j : Nat) : (⟨g, o, none⟩ : Addr).add j = ⟨g, o + j, none⟩ := by unfold Addr.add; split <;> simp_all

theorem name_cut (l : List UInt8) : ((bs l).extract 0 4).toList = l.take 4 := by
  rw [Lib.toList_data]
  simp [bs, ByteArray.data_extract]

set_option maxHeartbeats 100000000 in
set_option maxRecDepth 100000 in
theorem law_apart_a {w : World} {env : Pairs} {args : List (List UInt8)} {ins : List (List UInt8 × Nd)} {cs : List Value} {eA aA iA : Option Addr} {ec ac ic : Nat} {name : List UInt8} {other : Nd} {ocl : List Value}
    (hE : SliceIs (fun k => k < w.heap.size) 2 (.slice eA env.length ec) env.length (pairCells env) w) (hA : SliceIs (fun k => k < w.heap.size) 1 (.slice aA args.length ac) args.length (strCells args) w)
    (hS : SliceIs (fun k => k < w.heap.size) 6 (.slice iA ins.length ic) ins.length cs w) (hI : InsIs (fun k => k < w.heap.size) w ins cs) (hO : NdIs (fun k => k < w.heap.size) w other ocl) (hnm : name.length ≤ 281474976710656) (hcase : name = [47, 105, 110]) (hg : Glob w) :
    Calls Tryz.prog 4 #[.agg #[.slice eA env.length ec, .slice aA args.length ac, .slice iA ins.length ic], .string (bs name), .agg ocl.toArray] w fun e w' => e = .returned (.bool true) ∧ Below w.heap.size w w' := by
  obtain ⟨i0, hi, hz0, hz1, hz2⟩ := info_parts infoIn
  obtain ⟨oD, odc, oN, onc, oS, osc, rfl, _⟩ := hO.cells
  generalize other.kind = ok at *
  generalize other.exec = oe at *
  generalize other.data.length = on at *
  generalize other.names.length = onn at *
  generalize other.nodes.length = osn at *
  generalize hw1 : (w.alloc (.cells #[.slice eA env.length ec, .slice aA args.length ac, .slice iA ins.length ic] 26)).alloc (.cells #[.int .i64 ok, .bool oe, .slice oD on odc, .slice oN onn onc, .slice oS osn osc] 32) = w1
  have hb1 : Below w.heap.size w w1 := by rw [← hw1]; exact ((Below.refl _ _).alloc (Nat.le_refl _) _).alloc (by simp) _
  have n0 : w1.heap[w.heap.size]? = some (.cells #[.slice eA env.length ec, .slice aA args.length ac, .slice iA ins.length ic] 26 (0, 0)) := by rw [← hw1]; exact alloc_heap (heap_alloc_new w _)
  have n1 : w1.heap[w.heap.size + 1]? = some (.cells #[.int .i64 ok, .bool oe, .slice oD on odc, .slice oN onn onc, .slice oS osn osc] 32 (0, 0)) := by rw [← hw1]; exact heap_alloc2_new w _ _
  have hs1 : w1.heap.size = w.heap.size + 2 := by rw [← hw1]; simp
  have hin := inputs_any (w := w1) (eA := eA) (ec := ec) (aA := aA) (ac := ac) hE.1 hA.1 ((hS.kept (w' := w1) (fun k hk => hb1.block k hk)).mono (fun k hk => by omega)) (cs := cs) (ins := ins) ((hI.kept (w' := w1) (fun k hk => hb1.block k hk)).mono (fun k hk => by omega))
  have HW := Lib.hid hw1
  clear hS hI hw1
  go_enter Tryz.func4, Tryz.ntmps4
  go_wp2_with (go_at_call 9; rw [HW.out]; refine hin.mono ?_)
  intro x2 w2 hp
  obtain ⟨⟨v2, okk, rfl, hok⟩, hb2⟩ := hp
  cases okk with
  | false =>
    go_wp2
    go_ret
    exact ⟨rfl, hb1.trans (hb2.mono hb1.size)⟩
  | true =>
    obtain ⟨hen, han⟩ := hok rfl
    have n0' := below_blk hb2 n0
    have n1' := below_blk hb2 n1
    obtain ⟨m0, m1, m2, m3, m4⟩ := blk_cells n1'
    have hb12 := hb1.trans (hb2.mono hb1.size)
    have hlg := large_any (hO.kept (w' := w2) (fun k hk => hb12.block k hk)) (fun k hk => Nat.lt_of_lt_of_le hk hb12.size)
    clear hin hok
    go_wp2_with (go_at_call 11; refine hlg.mono ?_)
    intro x3 w3 hp
    obtain ⟨⟨b, rfl⟩, hb3⟩ := hp
    have hb13 := hb12.trans (hb3.mono hb12.size)
    cases b with
    | true =>
      go_wp2
      go_ret
      exact ⟨rfl, hb13⟩
    | false =>
      have n0'' := below_blk hb3 n0'
      have n1'' := below_blk hb3 n1'
      have hsz3 : w.heap.size + 2 ≤ w3.heap.size := by have := hb2.size; have := hb3.size; omega
      have hcv := const_at (P := Tryz.prog) (w3.alloc (.cells #[.string ⟨#[97]⟩, .string ⟨#[98]⟩] 9)) 29 5 #[.int .u8 120] 1 1 (w3.heap.size + 1) (by simp) Tryz.underlying29 Tryz.underlying5
      obtain ⟨m0, m1, m2, m3, m4⟩ := blk_cells (alloc_heap (o' := .cells #[.int .u8 120] 5 (1, 2)) (alloc_heap (o' := .cells #[.string ⟨#[97]⟩, .string ⟨#[98]⟩] 9) n1''))
      have k0 : ((((w3.alloc (.cells #[.string ⟨#[97]⟩, .string ⟨#[98]⟩] 9)).alloc (.cells #[.int .u8 120] 5 (1, 2))).alloc (.cells #[.int .i64 1, .bool false, .slice (some ⟨w3.heap.size + 1, 0, none⟩) 1 1, .slice none 0 0, .slice none 0 0, .int .i64 ok, .bool oe, .slice oD on odc, .slice oN onn onc, .slice oS osn osc] 32)).alloc (.cells #[.string ⟨#[47, 105, 110]⟩, .int .i64 2, .bool false, .slice none 0 0, .slice (some ⟨w3.heap.size, 0, none⟩) 2 2, .slice (some ⟨w3.heap.size + 1 + 1, 0, none⟩) 2 2] 43)).heap[w.heap.size]? = some (.cells #[.slice eA env.length ec, .slice aA args.length ac, .slice iA ins.length ic] 26 (0, 0)) := alloc_heap (alloc_heap (alloc_heap (alloc_heap n0'')))
      have c2 := (blk3 k0).2.2
      have f2 := Lib.frozen_of_heap k0 2
      have hL6 := laid_in hb13 hsz3 n0'' n1'' hE hA hO 9 5 (1, 2)
      obtain ⟨e0, e1, e2⟩ := blk3 hL6.world
      have hWd1 := hL6.wd1 hen han
      have hg6 := hg.grown hL6.below
      have hRun1 := callV (o := other) (ins1_a other) (ins1_in other) hg6 hWd1
      have hpb1 : bs progV = ⟨progV.toArray⟩ := rfl
      rw [hpb1] at hRun1
      unfold progV at hRun1
      clear hlg n0 n1 n0' n1' n0'' n1'' hWd1 hg6 hpb1
      go_wp2_with (go_at_call 8; refine hRun1.mono ?_)
      intro x4 w4 hp
      obtain ⟨cl1, rfl, hx4, hb4⟩ := hp
      obtain ⟨dA1, dc1, nA1, nc1, sA1, sc1, rfl, _⟩ := hx4.cells
      have hb46 := hb4.alloc (o := .cells #[.int .i64 2, .bool false, .slice dA1 0 dc1, .slice nA1 2 nc1, .slice sA1 2 sc1] 32) hb4.size
      have hL4 := hL6.kept hb46
      have hb04 := hL4.below
      have hs4 : w3.heap.size + 4 ≤ w4.heap.size := Nat.le_trans hL6.lt.2 hb4.size
      simp only [outV, leafNd, Nd.kind, Nd.exec, Nd.data, Nd.names, Nd.nodes, List.length_nil, List.length_cons, Nat.zero_add] at hx4 ⊢
      clear hRun1 hcv m0 m1 m2 m3 m4 k0 c2 f2 e0 e1 e2
      subst hcase
      have qs : (((⟨#[47, 111, 116, 104, 101, 114]⟩ : ByteArray).extract 0 4).toList == [47, 105, 110, 47]) = false := by kernel_rfl
      have qb : Below (w4.alloc (.cells #[.int .i64 2, .bool false, .slice dA1 0 dc1, .slice nA1 2 nc1, .slice sA1 2 sc1] 32)).heap.size (w4.alloc (.cells #[.int .i64 2, .bool false, .slice dA1 0 dc1, .slice nA1 2 nc1, .slice sA1 2 sc1] 32)) ((w4.alloc (.cells #[.int .i64 2, .bool false, .slice dA1 0 dc1, .slice nA1 2 nc1, .slice sA1 2 sc1] 32)).alloc (.cells #[.string ⟨#[47, 111, 116, 104, 101, 114]⟩, .int .i64 ok, .bool oe, .slice oD on odc, .slice oN onn onc, .slice oS osn osc] 43)) := (Below.refl _ _).alloc (Nat.le_refl _) _
      obtain ⟨m0, m1, m2, m3, m4⟩ := blk_cells hL4.node
      have d2 := (blk3 (below_blk qb hL4.world)).2.2
      have hown7 : ((w4.alloc (.cells #[.int .i64 2, .bool false, .slice dA1 0 dc1, .slice nA1 2 nc1, .slice sA1 2 sc1] 32)).alloc (.cells #[.string ⟨#[47, 111, 116, 104, 101, 114]⟩, .int .i64 ok, .bool oe, .slice oD on odc, .slice oN onn onc, .slice oS osn osc] 43)).ownsRow (w4.heap.size + 1) 43 6 (.slice (some ⟨w4.heap.size + 1, 0, none⟩) 1 1) 1 [.string ⟨#[47, 111, 116, 104, 101, 114]⟩, .int .i64 ok, .bool oe, .slice oD on odc, .slice oN onn onc, .slice oS osn osc] := ⟨rfl, .inr ⟨w4.heap.size + 1, 1, #[.string ⟨#[47, 111, 116, 104, 101, 114]⟩, .int .i64 ok, .bool oe, .slice oD on odc, .slice oN onn onc, .slice oS osn osc], rfl, Nat.le_refl _, heap_alloc2_new w4 _ _, Nat.le_refl _, by simp [maxLen], rfl, rfl⟩⟩
      have hrow7 := below_blk qb hL4.row
      go_wp2_with (at_builtin; (refine wpList_append_new rfl _ _ 24 rfl (w4.heap.size + 1) 43 i0 (.agg #[.string ⟨#[]⟩, .int .i64 0, .bool false, .slice none 0 0, .slice none 0 0, .slice none 0 0]) 6 104 Tryz.underlying24 hi hz0 hz1 hz2 rfl (by decide) (.slice (some ⟨w4.heap.size + 1, 0, none⟩) 1 1) 1 [.string ⟨#[47, 111, 116, 104, 101, 114]⟩, .int .i64 ok, .bool oe, .slice oD on odc, .slice oN onn onc, .slice oS osn osc] rfl hown7 ⟨w3.heap.size + 1 + 1 + 1, 0, none⟩ 1 1 [.string ⟨#[47, 105, 110]⟩, .int .i64 2, .bool false, .slice none 0 0, .slice (some ⟨w3.heap.size, 0, none⟩) 2 2, .slice (some ⟨w3.heap.size + 1 + 1, 0, none⟩) 2 2] rfl rfl ?c1 ?c2 (by decide) ?c3 ?c4 ?c5 ?_))
      case c1 => exact fun j u hu => by have := cells_at hrow7 j u hu; rw [Nat.zero_add] at this; exact this
      case c2 => exact ⟨rfl, rfl, rfl, rfl, rfl, rfl⟩
      case c3 => unfold maxLen; omega

      intro v' w8 hown8 hgr hfr
      have hk8 : ∀ k, k < (w4.alloc (.cells #[.int .i64 2, .bool false, .slice dA1 0 dc1, .slice nA1 2 nc1, .slice sA1 2 sc1] 32)).heap.size → w8.heap[k]? = (w4.alloc (.cells #[.int .i64 2, .bool false, .slice dA1 0 dc1, .slice nA1 2 nc1, .slice sA1 2 sc1] 32)).heap[k]? := fun k hk => (hgr.block k (by simp at hk ⊢; omega) (by simp [Value.ownBlock]; simp at hk; omega)).trans (qb.block k hk)
      have hs8 : (w4.alloc (.cells #[.int .i64 2, .bool false, .slice dA1 0 dc1, .slice nA1 2 nc1, .slice sA1 2 sc1] 32)).heap.size ≤ w8.heap.size := Nat.le_trans qb.size hgr.size
      have hWd := hL4.wd2 (w8 := w8) (M := w4.heap.size + 1) (v := v') (nm := othN) hen han (by simp [othN]) (by simp) hk8 hs8 hown8
      have kw := (hk8 _ (by have := hL4.lt; omega)).trans hL4.world
      have x8 := (hk8 w4.heap.size (by simp)).trans (heap_alloc_new w4 (.cells #[.int .i64 2, .bool false, .slice dA1 0 dc1, .slice nA1 2 nc1, .slice sA1 2 sc1] 32))
      obtain ⟨A8, cp8, rfl⟩ := own_slice hown8
      have c8 := (blk3 kw).2.2
      have f8 := Lib.frozen_of_heap kw 2
      have kw9 : (w8.setCell ⟨w.heap.size, 2, none⟩ (.slice A8 2 cp8)).heap[w.heap.size]? = some (.cells #[.slice eA env.length ec, .slice aA args.length ac, .slice A8 2 cp8] 26 (0, 0)) := blk_set kw _
      obtain ⟨g0, g1, g2⟩ := blk3 kw9
      have hb08 : Below w.heap.size w w8 := ((hb04.trans (qb.mono hb04.size)).grown hgr (Nat.le_trans hb04.size qb.size) (fun g hg => by simp [Value.ownBlock] at hg; have := hb04.size; simp at this; omega))
      have hb09 : Below w.heap.size w (w8.setCell ⟨w.heap.size, 2, none⟩ (.slice A8 2 cp8)) := hb08.setCell (by show w.heap.size ≤ w.heap.size; omega) _
      have hne4 : w4.heap.size ≠ w.heap.size := by have := hL6.lt; omega
      have hx9 := hx4.kept (w' := w8.setCell ⟨w.heap.size, 2, none⟩ (.slice A8 2 cp8)) (fun k hk => by have h1 := hk.1; have h2 := hk.2; have h3 := hL6.lt; exact (Below.heap_setCell _ _ _ _ (show k ≠ w.heap.size by omega)).trans ((hk8 k (by simp; omega)).trans (Below.heap_alloc _ _ _ h2)))
      have xb9 : (w8.setCell ⟨w.heap.size, 2, none⟩ (.slice A8 2 cp8)).heap[w4.heap.size]? = some (.cells #[.int .i64 2, .bool false, .slice dA1 0 dc1, .slice nA1 2 nc1, .slice sA1 2 sc1] 32) := (Below.heap_setCell _ _ _ _ hne4).trans x8
      have hg9 := hg.grown hb09
      have hs9 : (w8.setCell ⟨w.heap.size, 2, none⟩ (.slice A8 2 cp8)).heap.size = w8.heap.size := by simp
      have hRun2 := callV (o := other) (ins2_a othN_ok other) (ins2_in othN_ok other) hg9 hWd
      have hpb2 : bs progV = ⟨progV.toArray⟩ := rfl
      rw [hpb2] at hRun2
      unfold progV at hRun2
      have HHgr := Lib.hid hgr
      have HHfr := Lib.hid hfr
      clear hgr hfr hWd hown7 hrow7 m0 m1 m2 m3 m4 d2 hpb2 hown8
      go_wp2_with (go_at_call 8; refine hRun2.mono ?_)
      intro x10 w10 hp
      obtain ⟨cl2, rfl, hy10, hb10⟩ := hp
      obtain ⟨dA2, dc2, nA2, nc2, sA2, sc2, rfl, _⟩ := hy10.cells
      simp only [outV, leafNd, Nd.kind, Nd.exec, Nd.data, Nd.names, Nd.nodes, List.length_nil, List.length_cons, Nat.zero_add] at hy10 ⊢
      have hb11 := hb10.alloc (o := .cells #[.int .i64 2, .bool false, .slice dA2 0 dc2, .slice nA2 2 nc2, .slice sA2 2 sc2] 32) hb10.size
      have xb11 := below_blk hb11 xb9
      have yb11 := heap_alloc_new w10 (.cells #[.int .i64 2, .bool false, .slice dA2 0 dc2, .slice nA2 2 nc2, .slice sA2 2 sc2] 32)
      obtain ⟨xx0, xx1, xx2, xx3, xx4⟩ := blk_cells xb11
      obtain ⟨yy0, yy1, yy2, yy3, yy4⟩ := blk_cells yb11
      have hx11 := hx9.kept (w' := w10.alloc (.cells #[.int .i64 2, .bool false, .slice dA2 0 dc2, .slice nA2 2 nc2, .slice sA2 2 sc2] 32)) (fun k hk => hb11.block k (by have h2 := hk.2; have h3 := hs8; rw [hs9]; simp at h3; omega))
      have hy11 := hy10.kept (w' := w10.alloc (.cells #[.int .i64 2, .bool false, .slice dA2 0 dc2, .slice nA2 2 nc2, .slice sA2 2 sc2] 32)) (fun k hk => Below.heap_alloc _ _ _ hk.2)
      have hsame := same_any outV _ _ (w10.alloc (.cells #[.int .i64 2, .bool false, .slice dA2 0 dc2, .slice nA2 2 nc2, .slice sA2 2 sc2] 32)) _ _ hx11 hy11 (fun k hk => by have h2 := hk.2; have h3 := hb11.size; rw [hs9] at h3; have h4 := hs8; simp at h3 h4 ⊢; omega) (fun k hk => by have h2 := hk.2; simp; omega)
      clear hRun2 xb9 hx9
      go_wp2_with (go_at_call 10; refine hsame.mono ?_)
      rintro x12 w12 rfl hb12'
      have hb12 : Below (w10.alloc (.cells #[.int .i64 2, .bool false, .slice dA2 0 dc2, .slice nA2 2 nc2, .slice sA2 2 sc2] 32)).heap.size (w10.alloc (.cells #[.int .i64 2, .bool false, .slice dA2 0 dc2, .slice nA2 2 nc2, .slice sA2 2 sc2] 32)) w12 := by rw [show (w10.alloc (.cells #[.int .i64 2, .bool false, .slice dA2 0 dc2, .slice nA2 2 nc2, .slice sA2 2 sc2] 32)).heap.size = w10.heap.size + 1 by simp]; exact hb12'
      have xb12 := below_blk hb12 xb11
      have hx12 := hx11.kept (w' := w12) (fun k hk => hb12.block k (by have h2 := hk.2; have h3 := hb11.size; rw [hs9] at h3; have h4 := hs8; simp at h3 h4 ⊢; omega))
      obtain ⟨xx0, xx1, xx2, xx3, xx4⟩ := blk_cells xb12
      have hfin : Below w.heap.size w w12 := (hb09.trans (hb11.mono (by have := hb08.size; rw [hs9]; omega))).trans (hb12.mono (by have := hb09.size; have := hb11.size; omega))
      obtain ⟨g, o, f0, q0, f1, q1', rfl, r0, r1, v0, v1⟩ := outV_look hx12
      clear hb12' hx11 hy11 hy10 hsame xb11 yb11 yy0 yy1 yy2 yy3 yy4 hL4 hL6 hx4
      go_wp2
      go_ret
      exact ⟨rfl, hfin⟩

set_option maxHeartbeats 100000000 in
set_option maxRecDepth 100000 in
theorem law_apart_b {w : World} {env : Pairs} {args : List (List UInt8)} {ins : List (List UInt8 × Nd)} {cs : List Value} {eA aA iA : Option Addr} {ec ac ic : Nat} {name : List UInt8} {other : Nd} {ocl : List Value}
    (hE : SliceIs (fun k => k < w.heap.size) 2 (.slice eA env.length ec) env.length (pairCells env) w) (hA : SliceIs (fun k => k < w.heap.size) 1 (.slice aA args.length ac) args.length (strCells args) w)
    (hS : SliceIs (fun k => k < w.heap.size) 6 (.slice iA ins.length ic) ins.length cs w) (hI : InsIs (fun k => k < w.heap.size) w ins cs) (hO : NdIs (fun k => k < w.heap.size) w other ocl) (hnm : name.length ≤ 281474976710656) (hcase : name = []) (hg : Glob w) :
    Calls Tryz.prog 4 #[.agg #[.slice eA env.length ec, .slice aA args.length ac, .slice iA ins.length ic], .string (bs name), .agg ocl.toArray] w fun e w' => e = .returned (.bool true) ∧ Below w.heap.size w w' := by
  obtain ⟨i0, hi, hz0, hz1, hz2⟩ := info_parts infoIn
  obtain ⟨oD, odc, oN, onc, oS, osc, rfl, _⟩ := hO.cells
  generalize other.kind = ok at *
  generalize other.exec = oe at *
  generalize other.data.length = on at *
  generalize other.names.length = onn at *
  generalize other.nodes.length = osn at *
  generalize hw1 : (w.alloc (.cells #[.slice eA env.length ec, .slice aA args.length ac, .slice iA ins.length ic] 26)).alloc (.cells #[.int .i64 ok, .bool oe, .slice oD on odc, .slice oN onn onc, .slice oS osn osc] 32) = w1
  have hb1 : Below w.heap.size w w1 := by rw [← hw1]; exact ((Below.refl _ _).alloc (Nat.le_refl _) _).alloc (by simp) _
  have n0 : w1.heap[w.heap.size]? = some (.cells #[.slice eA env.length ec, .slice aA args.length ac, .slice iA ins.length ic] 26 (0, 0)) := by rw [← hw1]; exact alloc_heap (heap_alloc_new w _)
  have n1 : w1.heap[w.heap.size + 1]? = some (.cells #[.int .i64 ok, .bool oe, .slice oD on odc, .slice oN onn onc, .slice oS osn osc] 32 (0, 0)) := by rw [← hw1]; exact heap_alloc2_new w _ _
  have hs1 : w1.heap.size = w.heap.size + 2 := by rw [← hw1]; simp
  have hin := inputs_any (w := w1) (eA := eA) (ec := ec) (aA := aA) (ac := ac) hE.1 hA.1 ((hS.kept (w' := w1) (fun k hk => hb1.block k hk)).mono (fun k hk => by omega)) (cs := cs) (ins := ins) ((hI.kept (w' := w1) (fun k hk => hb1.block k hk)).mono (fun k hk => by omega))
  have HW := Lib.hid hw1
  clear hS hI hw1
  go_enter Tryz.func4, Tryz.ntmps4
  go_wp2_with (go_at_call 9; rw [HW.out]; refine hin.mono ?_)
  intro x2 w2 hp
  obtain ⟨⟨v2, okk, rfl, hok⟩, hb2⟩ := hp
  cases okk with
  | false =>
    go_wp2
    go_ret
    exact ⟨rfl, hb1.trans (hb2.mono hb1.size)⟩
  | true =>
    obtain ⟨hen, han⟩ := hok rfl
    have n0' := below_blk hb2 n0
    have n1' := below_blk hb2 n1
    obtain ⟨m0, m1, m2, m3, m4⟩ := blk_cells n1'
    have hb12 := hb1.trans (hb2.mono hb1.size)
    have hlg := large_any (hO.kept (w' := w2) (fun k hk => hb12.block k hk)) (fun k hk => Nat.lt_of_lt_of_le hk hb12.size)
    clear hin hok
    go_wp2_with (go_at_call 11; refine hlg.mono ?_)
    intro x3 w3 hp
    obtain ⟨⟨b, rfl⟩, hb3⟩ := hp
    have hb13 := hb12.trans (hb3.mono hb12.size)
    cases b with
    | true =>
      go_wp2
      go_ret
      exact ⟨rfl, hb13⟩
    | false =>
      have n0'' := below_blk hb3 n0'
      have n1'' := below_blk hb3 n1'
      have hsz3 : w.heap.size + 2 ≤ w3.heap.size := by have := hb2.size; have := hb3.size; omega
      have hcv := const_at (P := Tryz.prog) (w3.alloc (.cells #[.string ⟨#[97]⟩, .string ⟨#[98]⟩] 9)) 29 5 #[.int .u8 120] 1 1 (w3.heap.size + 1) (by simp) Tryz.underlying29 Tryz.underlying5
      obtain ⟨m0, m1, m2, m3, m4⟩ := blk_cells (alloc_heap (o' := .cells #[.int .u8 120] 5 (1, 2)) (alloc_heap (o' := .cells #[.string ⟨#[97]⟩, .string ⟨#[98]⟩] 9) n1''))
      have k0 : ((((w3.alloc (.cells #[.string ⟨#[97]⟩, .string ⟨#[98]⟩] 9)).alloc (.cells #[.int .u8 120] 5 (1, 2))).alloc (.cells #[.int .i64 1, .bool false, .slice (some ⟨w3.heap.size + 1, 0, none⟩) 1 1, .slice none 0 0, .slice none 0 0, .int .i64 ok, .bool oe, .slice oD on odc, .slice oN onn onc, .slice oS osn osc] 32)).alloc (.cells #[.string ⟨#[47, 105, 110]⟩, .int .i64 2, .bool false, .slice none 0 0, .slice (some ⟨w3.heap.size, 0, none⟩) 2 2, .slice (some ⟨w3.heap.size + 1 + 1, 0, none⟩) 2 2] 43)).heap[w.heap.size]? = some (.cells #[.slice eA env.length ec, .slice aA args.length ac, .slice iA ins.length ic] 26 (0, 0)) := alloc_heap (alloc_heap (alloc_heap (alloc_heap n0'')))
      have c2 := (blk3 k0).2.2
      have f2 := Lib.frozen_of_heap k0 2
      have hL6 := laid_in hb13 hsz3 n0'' n1'' hE hA hO 9 5 (1, 2)
      obtain ⟨e0, e1, e2⟩ := blk3 hL6.world
      have hWd1 := hL6.wd1 hen han
      have hg6 := hg.grown hL6.below
      have hRun1 := callV (o := other) (ins1_a other) (ins1_in other) hg6 hWd1
      have hpb1 : bs progV = ⟨progV.toArray⟩ := rfl
      rw [hpb1] at hRun1
      unfold progV at hRun1
      clear hlg n0 n1 n0' n1' n0'' n1'' hWd1 hg6 hpb1
      go_wp2_with (go_at_call 8; refine hRun1.mono ?_)
      intro x4 w4 hp
      obtain ⟨cl1, rfl, hx4, hb4⟩ := hp
      obtain ⟨dA1, dc1, nA1, nc1, sA1, sc1, rfl, _⟩ := hx4.cells
      have hb46 := hb4.alloc (o := .cells #[.int .i64 2, .bool false, .slice dA1 0 dc1, .slice nA1 2 nc1, .slice sA1 2 sc1] 32) hb4.size
      have hL4 := hL6.kept hb46
      have hb04 := hL4.below
      have hs4 : w3.heap.size + 4 ≤ w4.heap.size := Nat.le_trans hL6.lt.2 hb4.size
      simp only [outV, leafNd, Nd.kind, Nd.exec, Nd.data, Nd.names, Nd.nodes, List.length_nil, List.length_cons, Nat.zero_add] at hx4 ⊢
      clear hRun1 hcv m0 m1 m2 m3 m4 k0 c2 f2 e0 e1 e2
      subst hcase
      have qs : (((⟨#[47, 111, 116, 104, 101, 114]⟩ : ByteArray).extract 0 4).toList == [47, 105, 110, 47]) = false := by kernel_rfl
      have qb : Below (w4.alloc (.cells #[.int .i64 2, .bool false, .slice dA1 0 dc1, .slice nA1 2 nc1, .slice sA1 2 sc1] 32)).heap.size (w4.alloc (.cells #[.int .i64 2, .bool false, .slice dA1 0 dc1, .slice nA1 2 nc1, .slice sA1 2 sc1] 32)) ((w4.alloc (.cells #[.int .i64 2, .bool false, .slice dA1 0 dc1, .slice nA1 2 nc1, .slice sA1 2 sc1] 32)).alloc (.cells #[.string ⟨#[47, 111, 116, 104, 101, 114]⟩, .int .i64 ok, .bool oe, .slice oD on odc, .slice oN onn onc, .slice oS osn osc] 43)) := (Below.refl _ _).alloc (Nat.le_refl _) _
      obtain ⟨m0, m1, m2, m3, m4⟩ := blk_cells hL4.node
      have d2 := (blk3 (below_blk qb hL4.world)).2.2
      have hown7 : ((w4.alloc (.cells #[.int .i64 2, .bool false, .slice dA1 0 dc1, .slice nA1 2 nc1, .slice sA1 2 sc1] 32)).alloc (.cells #[.string ⟨#[47, 111, 116, 104, 101, 114]⟩, .int .i64 ok, .bool oe, .slice oD on odc, .slice oN onn onc, .slice oS osn osc] 43)).ownsRow (w4.heap.size + 1) 43 6 (.slice (some ⟨w4.heap.size + 1, 0, none⟩) 1 1) 1 [.string ⟨#[47, 111, 116, 104, 101, 114]⟩, .int .i64 ok, .bool oe, .slice oD on odc, .slice oN onn onc, .slice oS osn osc] := ⟨rfl, .inr ⟨w4.heap.size + 1, 1, #[.string ⟨#[47, 111, 116, 104, 101, 114]⟩, .int .i64 ok, .bool oe, .slice oD on odc, .slice oN onn onc, .slice oS osn osc], rfl, Nat.le_refl _, heap_alloc2_new w4 _ _, Nat.le_refl _, by simp [maxLen], rfl, rfl⟩⟩
      have hrow7 := below_blk qb hL4.row
      go_wp2_with (at_builtin; (refine wpList_append_new rfl _ _ 24 rfl (w4.heap.size + 1) 43 i0 (.agg #[.string ⟨#[]⟩, .int .i64 0, .bool false, .slice none 0 0, .slice none 0 0, .slice none 0 0]) 6 104 Tryz.underlying24 hi hz0 hz1 hz2 rfl (by decide) (.slice (some ⟨w4.heap.size + 1, 0, none⟩) 1 1) 1 [.string ⟨#[47, 111, 116, 104, 101, 114]⟩, .int .i64 ok, .bool oe, .slice oD on odc, .slice oN onn onc, .slice oS osn osc] rfl hown7 ⟨w3.heap.size + 1 + 1 + 1, 0, none⟩ 1 1 [.string ⟨#[47, 105, 110]⟩, .int .i64 2, .bool false, .slice none 0 0, .slice (some ⟨w3.heap.size, 0, none⟩) 2 2, .slice (some ⟨w3.heap.size + 1 + 1, 0, none⟩) 2 2] rfl rfl ?c1 ?c2 (by decide) ?c3 ?c4 ?c5 ?_))
      case c1 => exact fun j u hu => by have := cells_at hrow7 j u hu; rw [Nat.zero_add] at this; exact this
      case c2 => exact ⟨rfl, rfl, rfl, rfl, rfl, rfl⟩
      case c3 => unfold maxLen; omega

      intro v' w8 hown8 hgr hfr
      have hk8 : ∀ k, k < (w4.alloc (.cells #[.int .i64 2, .bool false, .slice dA1 0 dc1, .slice nA1 2 nc1, .slice sA1 2 sc1] 32)).heap.size → w8.heap[k]? = (w4.alloc (.cells #[.int .i64 2, .bool false, .slice dA1 0 dc1, .slice nA1 2 nc1, .slice sA1 2 sc1] 32)).heap[k]? := fun k hk => (hgr.block k (by simp at hk ⊢; omega) (by simp [Value.ownBlock]; simp at hk; omega)).trans (qb.block k hk)
      have hs8 : (w4.alloc (.cells #[.int .i64 2, .bool false, .slice dA1 0 dc1, .slice nA1 2 nc1, .slice sA1 2 sc1] 32)).heap.size ≤ w8.heap.size := Nat.le_trans qb.size hgr.size
      have hWd := hL4.wd2 (w8 := w8) (M := w4.heap.size + 1) (v := v') (nm := othN) hen han (by simp [othN]) (by simp) hk8 hs8 hown8
      have kw := (hk8 _ (by have := hL4.lt; omega)).trans hL4.world
      have x8 := (hk8 w4.heap.size (by simp)).trans (heap_alloc_new w4 (.cells #[.int .i64 2, .bool false, .slice dA1 0 dc1, .slice nA1 2 nc1, .slice sA1 2 sc1] 32))
      obtain ⟨A8, cp8, rfl⟩ := own_slice hown8
      have c8 := (blk3 kw).2.2
      have f8 := Lib.frozen_of_heap kw 2
      have kw9 : (w8.setCell ⟨w.heap.size, 2, none⟩ (.slice A8 2 cp8)).heap[w.heap.size]? = some (.cells #[.slice eA env.length ec, .slice aA args.length ac, .slice A8 2 cp8] 26 (0, 0)) := blk_set kw _
      obtain ⟨g0, g1, g2⟩ := blk3 kw9
      have hb08 : Below w.heap.size w w8 := ((hb04.trans (qb.mono hb04.size)).grown hgr (Nat.le_trans hb04.size qb.size) (fun g hg => by simp [Value.ownBlock] at hg; have := hb04.size; simp at this; omega))
      have hb09 : Below w.heap.size w (w8.setCell ⟨w.heap.size, 2, none⟩ (.slice A8 2 cp8)) := hb08.setCell (by show w.heap.size ≤ w.heap.size; omega) _
      have hne4 : w4.heap.size ≠ w.heap.size := by have := hL6.lt; omega
      have hx9 := hx4.kept (w' := w8.setCell ⟨w.heap.size, 2, none⟩ (.slice A8 2 cp8)) (fun k hk => by have h1 := hk.1; have h2 := hk.2; have h3 := hL6.lt; exact (Below.heap_setCell _ _ _ _ (show k ≠ w.heap.size by omega)).trans ((hk8 k (by simp; omega)).trans (Below.heap_alloc _ _ _ h2)))
      have xb9 : (w8.setCell ⟨w.heap.size, 2, none⟩ (.slice A8 2 cp8)).heap[w4.heap.size]? = some (.cells #[.int .i64 2, .bool false, .slice dA1 0 dc1, .slice nA1 2 nc1, .slice sA1 2 sc1] 32) := (Below.heap_setCell _ _ _ _ hne4).trans x8
      have hg9 := hg.grown hb09
      have hs9 : (w8.setCell ⟨w.heap.size, 2, none⟩ (.slice A8 2 cp8)).heap.size = w8.heap.size := by simp
      have hRun2 := callV (o := other) (ins2_a othN_ok other) (ins2_in othN_ok other) hg9 hWd
      have hpb2 : bs progV = ⟨progV.toArray⟩ := rfl
      rw [hpb2] at hRun2
      unfold progV at hRun2
      have HHgr := Lib.hid hgr
      have HHfr := Lib.hid hfr
      clear hgr hfr hWd hown7 hrow7 m0 m1 m2 m3 m4 d2 hpb2 hown8
      go_wp2_with (go_at_call 8; refine hRun2.mono ?_)
      intro x10 w10 hp
      obtain ⟨cl2, rfl, hy10, hb10⟩ := hp
      obtain ⟨dA2, dc2, nA2, nc2, sA2, sc2, rfl, _⟩ := hy10.cells
      simp only [outV, leafNd, Nd.kind, Nd.exec, Nd.data, Nd.names, Nd.nodes, List.length_nil, List.length_cons, Nat.zero_add] at hy10 ⊢
      have hb11 := hb10.alloc (o := .cells #[.int .i64 2, .bool false, .slice dA2 0 dc2, .slice nA2 2 nc2, .slice sA2 2 sc2] 32) hb10.size
      have xb11 := below_blk hb11 xb9
      have yb11 := heap_alloc_new w10 (.cells #[.int .i64 2, .bool false, .slice dA2 0 dc2, .slice nA2 2 nc2, .slice sA2 2 sc2] 32)
      obtain ⟨xx0, xx1, xx2, xx3, xx4⟩ := blk_cells xb11
      obtain ⟨yy0, yy1, yy2, yy3, yy4⟩ := blk_cells yb11
      have hx11 := hx9.kept (w' := w10.alloc (.cells #[.int .i64 2, .bool false, .slice dA2 0 dc2, .slice nA2 2 nc2, .slice sA2 2 sc2] 32)) (fun k hk => hb11.block k (by have h2 := hk.2; have h3 := hs8; rw [hs9]; simp at h3; omega))
      have hy11 := hy10.kept (w' := w10.alloc (.cells #[.int .i64 2, .bool false, .slice dA2 0 dc2, .slice nA2 2 nc2, .slice sA2 2 sc2] 32)) (fun k hk => Below.heap_alloc _ _ _ hk.2)
      have hsame := same_any outV _ _ (w10.alloc (.cells #[.int .i64 2, .bool false, .slice dA2 0 dc2, .slice nA2 2 nc2, .slice sA2 2 sc2] 32)) _ _ hx11 hy11 (fun k hk => by have h2 := hk.2; have h3 := hb11.size; rw [hs9] at h3; have h4 := hs8; simp at h3 h4 ⊢; omega) (fun k hk => by have h2 := hk.2; simp; omega)
      clear hRun2 xb9 hx9
      go_wp2_with (go_at_call 10; refine hsame.mono ?_)
      rintro x12 w12 rfl hb12'
      have hb12 : Below (w10.alloc (.cells #[.int .i64 2, .bool false, .slice dA2 0 dc2, .slice nA2 2 nc2, .slice sA2 2 sc2] 32)).heap.size (w10.alloc (.cells #[.int .i64 2, .bool false, .slice dA2 0 dc2, .slice nA2 2 nc2, .slice sA2 2 sc2] 32)) w12 := by rw [show (w10.alloc (.cells #[.int .i64 2, .bool false, .slice dA2 0 dc2, .slice nA2 2 nc2, .slice sA2 2 sc2] 32)).heap.size = w10.heap.size + 1 by simp]; exact hb12'
      have xb12 := below_blk hb12 xb11
      have hx12 := hx11.kept (w' := w12) (fun k hk => hb12.block k (by have h2 := hk.2; have h3 := hb11.size; rw [hs9] at h3; have h4 := hs8; simp at h3 h4 ⊢; omega))
      obtain ⟨xx0, xx1, xx2, xx3, xx4⟩ := blk_cells xb12
      have hfin : Below w.heap.size w w12 := (hb09.trans (hb11.mono (by have := hb08.size; rw [hs9]; omega))).trans (hb12.mono (by have := hb09.size; have := hb11.size; omega))
      obtain ⟨g, o, f0, q0, f1, q1', rfl, r0, r1, v0, v1⟩ := outV_look hx12
      clear hb12' hx11 hy11 hy10 hsame xb11 yb11 yy0 yy1 yy2 yy3 yy4 hL4 hL6 hx4
      go_wp2
      go_ret
      exact ⟨rfl, hfin⟩

set_option maxHeartbeats 100000000 in
set_option maxRecDepth 100000 in
theorem law_apart_c {w : World} {env : Pairs} {args : List (List UInt8)} {ins : List (List UInt8 × Nd)} {cs : List Value} {eA aA iA : Option Addr} {ec ac ic : Nat} {name : List UInt8} {other : Nd} {ocl : List Value}
    (hE : SliceIs (fun k => k < w.heap.size) 2 (.slice eA env.length ec) env.length (pairCells env) w) (hA : SliceIs (fun k => k < w.heap.size) 1 (.slice aA args.length ac) args.length (strCells args) w)
    (hS : SliceIs (fun k => k < w.heap.size) 6 (.slice iA ins.length ic) ins.length cs w) (hI : InsIs (fun k => k < w.heap.size) w ins cs) (hO : NdIs (fun k => k < w.heap.size) w other ocl) (hnm : name.length ≤ 281474976710656) (c1 : ¬ name = [47, 105, 110]) (c2 : ¬ name = []) (c3 : name.length < 4) (hg : Glob w) :
    Calls Tryz.prog 4 #[.agg #[.slice eA env.length ec, .slice aA args.length ac, .slice iA ins.length ic], .string (bs name), .agg ocl.toArray] w fun e w' => e = .returned (.bool true) ∧ Below w.heap.size w w' := by
  obtain ⟨i0, hi, hz0, hz1, hz2⟩ := info_parts infoIn
  obtain ⟨oD, odc, oN, onc, oS, osc, rfl, _⟩ := hO.cells
  generalize other.kind = ok at *
  generalize other.exec = oe at *
  generalize other.data.length = on at *
  generalize other.names.length = onn at *
  generalize other.nodes.length = osn at *
  generalize hw1 : (w.alloc (.cells #[.slice eA env.length ec, .slice aA args.length ac, .slice iA ins.length ic] 26)).alloc (.cells #[.int .i64 ok, .bool oe, .slice oD on odc, .slice oN onn onc, .slice oS osn osc] 32) = w1
  have hb1 : Below w.heap.size w w1 := by rw [← hw1]; exact ((Below.refl _ _).alloc (Nat.le_refl _) _).alloc (by simp) _
  have n0 : w1.heap[w.heap.size]? = some (.cells #[.slice eA env.length ec, .slice aA args.length ac, .slice iA ins.length ic] 26 (0, 0)) := by rw [← hw1]; exact alloc_heap (heap_alloc_new w _)
  have n1 : w1.heap[w.heap.size + 1]? = some (.cells #[.int .i64 ok, .bool oe, .slice oD on odc, .slice oN onn onc, .slice oS osn osc] 32 (0, 0)) := by rw [← hw1]; exact heap_alloc2_new w _ _
  have hs1 : w1.heap.size = w.heap.size + 2 := by rw [← hw1]; simp
  have hin := inputs_any (w := w1) (eA := eA) (ec := ec) (aA := aA) (ac := ac) hE.1 hA.1 ((hS.kept (w' := w1) (fun k hk => hb1.block k hk)).mono (fun k hk => by omega)) (cs := cs) (ins := ins) ((hI.kept (w' := w1) (fun k hk => hb1.block k hk)).mono (fun k hk => by omega))
  have HW := Lib.hid hw1
  clear hS hI hw1
  go_enter Tryz.func4, Tryz.ntmps4
  go_wp2_with (go_at_call 9; rw [HW.out]; refine hin.mono ?_)
  intro x2 w2 hp
  obtain ⟨⟨v2, okk, rfl, hok⟩, hb2⟩ := hp
  cases okk with
  | false =>
    go_wp2
    go_ret
    exact ⟨rfl, hb1.trans (hb2.mono hb1.size)⟩
  | true =>
    obtain ⟨hen, han⟩ := hok rfl
    have n0' := below_blk hb2 n0
    have n1' := below_blk hb2 n1
    obtain ⟨m0, m1, m2, m3, m4⟩ := blk_cells n1'
    have hb12 := hb1.trans (hb2.mono hb1.size)
    have hlg := large_any (hO.kept (w' := w2) (fun k hk => hb12.block k hk)) (fun k hk => Nat.lt_of_lt_of_le hk hb12.size)
    clear hin hok
    go_wp2_with (go_at_call 11; refine hlg.mono ?_)
    intro x3 w3 hp
    obtain ⟨⟨b, rfl⟩, hb3⟩ := hp
    have hb13 := hb12.trans (hb3.mono hb12.size)
    cases b with
    | true =>
      go_wp2
      go_ret
      exact ⟨rfl, hb13⟩
    | false =>
      have n0'' := below_blk hb3 n0'
      have n1'' := below_blk hb3 n1'
      have hsz3 : w.heap.size + 2 ≤ w3.heap.size := by have := hb2.size; have := hb3.size; omega
      have hcv := const_at (P := Tryz.prog) (w3.alloc (.cells #[.string ⟨#[97]⟩, .string ⟨#[98]⟩] 9)) 29 5 #[.int .u8 120] 1 1 (w3.heap.size + 1) (by simp) Tryz.underlying29 Tryz.underlying5
      obtain ⟨m0, m1, m2, m3, m4⟩ := blk_cells (alloc_heap (o' := .cells #[.int .u8 120] 5 (1, 2)) (alloc_heap (o' := .cells #[.string ⟨#[97]⟩, .string ⟨#[98]⟩] 9) n1''))
      have k0 : ((((w3.alloc (.cells #[.string ⟨#[97]⟩, .string ⟨#[98]⟩] 9)).alloc (.cells #[.int .u8 120] 5 (1, 2))).alloc (.cells #[.int .i64 1, .bool false, .slice (some ⟨w3.heap.size + 1, 0, none⟩) 1 1, .slice none 0 0, .slice none 0 0, .int .i64 ok, .bool oe, .slice oD on odc, .slice oN onn onc, .slice oS osn osc] 32)).alloc (.cells #[.string ⟨#[47, 105, 110]⟩, .int .i64 2, .bool false, .slice none 0 0, .slice (some ⟨w3.heap.size, 0, none⟩) 2 2, .slice (some ⟨w3.heap.size + 1 + 1, 0, none⟩) 2 2] 43)).heap[w.heap.size]? = some (.cells #[.slice eA env.length ec, .slice aA args.length ac, .slice iA ins.length ic] 26 (0, 0)) := alloc_heap (alloc_heap (alloc_heap (alloc_heap n0'')))
      have c2 := (blk3 k0).2.2
      have f2 := Lib.frozen_of_heap k0 2
      have hL6 := laid_in hb13 hsz3 n0'' n1'' hE hA hO 9 5 (1, 2)
      obtain ⟨e0, e1, e2⟩ := blk3 hL6.world
      have hWd1 := hL6.wd1 hen han
      have hg6 := hg.grown hL6.below
      have hRun1 := callV (o := other) (ins1_a other) (ins1_in other) hg6 hWd1
      have hpb1 : bs progV = ⟨progV.toArray⟩ := rfl
      rw [hpb1] at hRun1
      unfold progV at hRun1
      clear hlg n0 n1 n0' n1' n0'' n1'' hWd1 hg6 hpb1
      go_wp2_with (go_at_call 8; refine hRun1.mono ?_)
      intro x4 w4 hp
      obtain ⟨cl1, rfl, hx4, hb4⟩ := hp
      obtain ⟨dA1, dc1, nA1, nc1, sA1, sc1, rfl, _⟩ := hx4.cells
      have hb46 := hb4.alloc (o := .cells #[.int .i64 2, .bool false, .slice dA1 0 dc1, .slice nA1 2 nc1, .slice sA1 2 sc1] 32) hb4.size
      have hL4 := hL6.kept hb46
      have hb04 := hL4.below
      have hs4 : w3.heap.size + 4 ≤ w4.heap.size := Nat.le_trans hL6.lt.2 hb4.size
      simp only [outV, leafNd, Nd.kind, Nd.exec, Nd.data, Nd.names, Nd.nodes, List.length_nil, List.length_cons, Nat.zero_add] at hx4 ⊢
      clear hRun1 hcv m0 m1 m2 m3 m4 k0 c2 f2 e0 e1 e2
      have q1 : (name == [47, 105, 110]) = false := by simp [c1]
      have q2 : (name == []) = false := by simp [c2]
      have hbz := bs_size name
      have qs : (((⟨#[47, 111, 116, 104, 101, 114]⟩ : ByteArray).extract 0 4).toList == [47, 105, 110, 47]) = false := by kernel_rfl
      have qb : Below (w4.alloc (.cells #[.int .i64 2, .bool false, .slice dA1 0 dc1, .slice nA1 2 nc1, .slice sA1 2 sc1] 32)).heap.size (w4.alloc (.cells #[.int .i64 2, .bool false, .slice dA1 0 dc1, .slice nA1 2 nc1, .slice sA1 2 sc1] 32)) ((w4.alloc (.cells #[.int .i64 2, .bool false, .slice dA1 0 dc1, .slice nA1 2 nc1, .slice sA1 2 sc1] 32)).alloc (.cells #[.string ⟨#[47, 111, 116, 104, 101, 114]⟩, .int .i64 ok, .bool oe, .slice oD on odc, .slice oN onn onc, .slice oS osn osc] 43)) := (Below.refl _ _).alloc (Nat.le_refl _) _
      obtain ⟨m0, m1, m2, m3, m4⟩ := blk_cells hL4.node
      have d2 := (blk3 (below_blk qb hL4.world)).2.2
      have hown7 : ((w4.alloc (.cells #[.int .i64 2, .bool false, .slice dA1 0 dc1, .slice nA1 2 nc1, .slice sA1 2 sc1] 32)).alloc (.cells #[.string ⟨#[47, 111, 116, 104, 101, 114]⟩, .int .i64 ok, .bool oe, .slice oD on odc, .slice oN onn onc, .slice oS osn osc] 43)).ownsRow (w4.heap.size + 1) 43 6 (.slice (some ⟨w4.heap.size + 1, 0, none⟩) 1 1) 1 [.string ⟨#[47, 111, 116, 104, 101, 114]⟩, .int .i64 ok, .bool oe, .slice oD on odc, .slice oN onn onc, .slice oS osn osc] := ⟨rfl, .inr ⟨w4.heap.size + 1, 1, #[.string ⟨#[47, 111, 116, 104, 101, 114]⟩, .int .i64 ok, .bool oe, .slice oD on odc, .slice oN onn onc, .slice oS osn osc], rfl, Nat.le_refl _, heap_alloc2_new w4 _ _, Nat.le_refl _, by simp [maxLen], rfl, rfl⟩⟩
      have hrow7 := below_blk qb hL4.row
      go_wp2_with (at_builtin; (refine wpList_append_new rfl _ _ 24 rfl (w4.heap.size + 1) 43 i0 (.agg #[.string ⟨#[]⟩, .int .i64 0, .bool false, .slice none 0 0, .slice none 0 0, .slice none 0 0]) 6 104 Tryz.underlying24 hi hz0 hz1 hz2 rfl (by decide) (.slice (some ⟨w4.heap.size + 1, 0, none⟩) 1 1) 1 [.string ⟨#[47, 111, 116, 104, 101, 114]⟩, .int .i64 ok, .bool oe, .slice oD on odc, .slice oN onn onc, .slice oS osn osc] rfl hown7 ⟨w3.heap.size + 1 + 1 + 1, 0, none⟩ 1 1 [.string ⟨#[47, 105, 110]⟩, .int .i64 2, .bool false, .slice none 0 0, .slice (some ⟨w3.heap.size, 0, none⟩) 2 2, .slice (some ⟨w3.heap.size + 1 + 1, 0, none⟩) 2 2] rfl rfl ?c1 ?c2 (by decide) ?c3 ?c4 ?c5 ?_))
      case c1 => exact fun j u hu => by have := cells_at hrow7 j u hu; rw [Nat.zero_add] at this; exact this
      case c2 => exact ⟨rfl, rfl, rfl, rfl, rfl, rfl⟩
      case c3 => unfold maxLen; omega

      intro v' w8 hown8 hgr hfr
      have hk8 : ∀ k, k < (w4.alloc (.cells #[.int .i64 2, .bool false, .slice dA1 0 dc1, .slice nA1 2 nc1, .slice sA1 2 sc1] 32)).heap.size → w8.heap[k]? = (w4.alloc (.cells #[.int .i64 2, .bool false, .slice dA1 0 dc1, .slice nA1 2 nc1, .slice sA1 2 sc1] 32)).heap[k]? := fun k hk => (hgr.block k (by simp at hk ⊢; omega) (by simp [Value.ownBlock]; simp at hk; omega)).trans (qb.block k hk)
      have hs8 : (w4.alloc (.cells #[.int .i64 2, .bool false, .slice dA1 0 dc1, .slice nA1 2 nc1, .slice sA1 2 sc1] 32)).heap.size ≤ w8.heap.size := Nat.le_trans qb.size hgr.size
      have hWd := hL4.wd2 (w8 := w8) (M := w4.heap.size + 1) (v := v') (nm := othN) hen han (by simp [othN]) (by simp) hk8 hs8 hown8
      have kw := (hk8 _ (by have := hL4.lt; omega)).trans hL4.world
      have x8 := (hk8 w4.heap.size (by simp)).trans (heap_alloc_new w4 (.cells #[.int .i64 2, .bool false, .slice dA1 0 dc1, .slice nA1 2 nc1, .slice sA1 2 sc1] 32))
      obtain ⟨A8, cp8, rfl⟩ := own_slice hown8
      have c8 := (blk3 kw).2.2
      have f8 := Lib.frozen_of_heap kw 2
      have kw9 : (w8.setCell ⟨w.heap.size, 2, none⟩ (.slice A8 2 cp8)).heap[w.heap.size]? = some (.cells #[.slice eA env.length ec, .slice aA args.length ac, .slice A8 2 cp8] 26 (0, 0)) := blk_set kw _
      obtain ⟨g0, g1, g2⟩ := blk3 kw9
      have hb08 : Below w.heap.size w w8 := ((hb04.trans (qb.mono hb04.size)).grown hgr (Nat.le_trans hb04.size qb.size) (fun g hg => by simp [Value.ownBlock] at hg; have := hb04.size; simp at this; omega))
      have hb09 : Below w.heap.size w (w8.setCell ⟨w.heap.size, 2, none⟩ (.slice A8 2 cp8)) := hb08.setCell (by show w.heap.size ≤ w.heap.size; omega) _
      have hne4 : w4.heap.size ≠ w.heap.size := by have := hL6.lt; omega
      have hx9 := hx4.kept (w' := w8.setCell ⟨w.heap.size, 2, none⟩ (.slice A8 2 cp8)) (fun k hk => by have h1 := hk.1; have h2 := hk.2; have h3 := hL6.lt; exact (Below.heap_setCell _ _ _ _ (show k ≠ w.heap.size by omega)).trans ((hk8 k (by simp; omega)).trans (Below.heap_alloc _ _ _ h2)))
      have xb9 : (w8.setCell ⟨w.heap.size, 2, none⟩ (.slice A8 2 cp8)).heap[w4.heap.size]? = some (.cells #[.int .i64 2, .bool false, .slice dA1 0 dc1, .slice nA1 2 nc1, .slice sA1 2 sc1] 32) := (Below.heap_setCell _ _ _ _ hne4).trans x8
      have hg9 := hg.grown hb09
      have hs9 : (w8.setCell ⟨w.heap.size, 2, none⟩ (.slice A8 2 cp8)).heap.size = w8.heap.size := by simp
      have hRun2 := callV (o := other) (ins2_a othN_ok other) (ins2_in othN_ok other) hg9 hWd
      have hpb2 : bs progV = ⟨progV.toArray⟩ := rfl
      rw [hpb2] at hRun2
      unfold progV at hRun2
      have HHgr := Lib.hid hgr
      have HHfr := Lib.hid hfr
      clear hgr hfr hWd hown7 hrow7 m0 m1 m2 m3 m4 d2 hpb2 hown8
      go_wp2_with (go_at_call 8; refine hRun2.mono ?_)
      intro x10 w10 hp
      obtain ⟨cl2, rfl, hy10, hb10⟩ := hp
      obtain ⟨dA2, dc2, nA2, nc2, sA2, sc2, rfl, _⟩ := hy10.cells
      simp only [outV, leafNd, Nd.kind, Nd.exec, Nd.data, Nd.names, Nd.nodes, List.length_nil, List.length_cons, Nat.zero_add] at hy10 ⊢
      have hb11 := hb10.alloc (o := .cells #[.int .i64 2, .bool false, .slice dA2 0 dc2, .slice nA2 2 nc2, .slice sA2 2 sc2] 32) hb10.size
      have xb11 := below_blk hb11 xb9
      have yb11 := heap_alloc_new w10 (.cells #[.int .i64 2, .bool false, .slice dA2 0 dc2, .slice nA2 2 nc2, .slice sA2 2 sc2] 32)
      obtain ⟨xx0, xx1, xx2, xx3, xx4⟩ := blk_cells xb11
      obtain ⟨yy0, yy1, yy2, yy3, yy4⟩ := blk_cells yb11
      have hx11 := hx9.kept (w' := w10.alloc (.cells #[.int .i64 2, .bool false, .slice dA2 0 dc2, .slice nA2 2 nc2, .slice sA2 2 sc2] 32)) (fun k hk => hb11.block k (by have h2 := hk.2; have h3 := hs8; rw [hs9]; simp at h3; omega))
      have hy11 := hy10.kept (w' := w10.alloc (.cells #[.int .i64 2, .bool false, .slice dA2 0 dc2, .slice nA2 2 nc2, .slice sA2 2 sc2] 32)) (fun k hk => Below.heap_alloc _ _ _ hk.2)
      have hsame := same_any outV _ _ (w10.alloc (.cells #[.int .i64 2, .bool false, .slice dA2 0 dc2, .slice nA2 2 nc2, .slice sA2 2 sc2] 32)) _ _ hx11 hy11 (fun k hk => by have h2 := hk.2; have h3 := hb11.size; rw [hs9] at h3; have h4 := hs8; simp at h3 h4 ⊢; omega) (fun k hk => by have h2 := hk.2; simp; omega)
      clear hRun2 xb9 hx9
      go_wp2_with (go_at_call 10; refine hsame.mono ?_)
      rintro x12 w12 rfl hb12'
      have hb12 : Below (w10.alloc (.cells #[.int .i64 2, .bool false, .slice dA2 0 dc2, .slice nA2 2 nc2, .slice sA2 2 sc2] 32)).heap.size (w10.alloc (.cells #[.int .i64 2, .bool false, .slice dA2 0 dc2, .slice nA2 2 nc2, .slice sA2 2 sc2] 32)) w12 := by rw [show (w10.alloc (.cells #[.int .i64 2, .bool false, .slice dA2 0 dc2, .slice nA2 2 nc2, .slice sA2 2 sc2] 32)).heap.size = w10.heap.size + 1 by simp]; exact hb12'
      have xb12 := below_blk hb12 xb11
      have hx12 := hx11.kept (w' := w12) (fun k hk => hb12.block k (by have h2 := hk.2; have h3 := hb11.size; rw [hs9] at h3; have h4 := hs8; simp at h3 h4 ⊢; omega))
      obtain ⟨xx0, xx1, xx2, xx3, xx4⟩ := blk_cells xb12
      have hfin : Below w.heap.size w w12 := (hb09.trans (hb11.mono (by have := hb08.size; rw [hs9]; omega))).trans (hb12.mono (by have := hb09.size; have := hb11.size; omega))
      obtain ⟨g, o, f0, q0, f1, q1', rfl, r0, r1, v0, v1⟩ := outV_look hx12
      clear hb12' hx11 hy11 hy10 hsame xb11 yb11 yy0 yy1 yy2 yy3 yy4 hL4 hL6 hx4
      go_wp2
      go_ret
      exact ⟨rfl, hfin⟩

set_option maxHeartbeats 100000000 in
set_option maxRecDepth 100000 in
theorem law_apart_d {w : World} {env : Pairs} {args : List (List UInt8)} {ins : List (List UInt8 × Nd)} {cs : List Value} {eA aA iA : Option Addr} {ec ac ic : Nat} {name : List UInt8} {other : Nd} {ocl : List Value}
    (hE : SliceIs (fun k => k < w.heap.size) 2 (.slice eA env.length ec) env.length (pairCells env) w) (hA : SliceIs (fun k => k < w.heap.size) 1 (.slice aA args.length ac) args.length (strCells args) w)
    (hS : SliceIs (fun k => k < w.heap.size) 6 (.slice iA ins.length ic) ins.length cs w) (hI : InsIs (fun k => k < w.heap.size) w ins cs) (hO : NdIs (fun k => k < w.heap.size) w other ocl) (hnm : name.length ≤ 281474976710656) (c1 : ¬ name = [47, 105, 110]) (c2 : ¬ name = []) (c3 : ¬ name.length < 4) (c4 : name.take 4 = [47, 105, 110, 47]) (hg : Glob w) :
    Calls Tryz.prog 4 #[.agg #[.slice eA env.length ec, .slice aA args.length ac, .slice iA ins.length ic], .string (bs name), .agg ocl.toArray] w fun e w' => e = .returned (.bool true) ∧ Below w.heap.size w w' := by
  obtain ⟨i0, hi, hz0, hz1, hz2⟩ := info_parts infoIn
  obtain ⟨oD, odc, oN, onc, oS, osc, rfl, _⟩ := hO.cells
  generalize other.kind = ok at *
  generalize other.exec = oe at *
  generalize other.data.length = on at *
  generalize other.names.length = onn at *
  generalize other.nodes.length = osn at *
  generalize hw1 : (w.alloc (.cells #[.slice eA env.length ec, .slice aA args.length ac, .slice iA ins.length ic] 26)).alloc (.cells #[.int .i64 ok, .bool oe, .slice oD on odc, .slice oN onn onc, .slice oS osn osc] 32) = w1
  have hb1 : Below w.heap.size w w1 := by rw [← hw1]; exact ((Below.refl _ _).alloc (Nat.le_refl _) _).alloc (by simp) _
  have n0 : w1.heap[w.heap.size]? = some (.cells #[.slice eA env.length ec, .slice aA args.length ac, .slice iA ins.length ic] 26 (0, 0)) := by rw [← hw1]; exact alloc_heap (heap_alloc_new w _)
  have n1 : w1.heap[w.heap.size + 1]? = some (.cells #[.int .i64 ok, .bool oe, .slice oD on odc, .slice oN onn onc, .slice oS osn osc] 32 (0, 0)) := by rw [← hw1]; exact heap_alloc2_new w _ _
  have hs1 : w1.heap.size = w.heap.size + 2 := by rw [← hw1]; simp
  have hin := inputs_any (w := w1) (eA := eA) (ec := ec) (aA := aA) (ac := ac) hE.1 hA.1 ((hS.kept (w' := w1) (fun k hk => hb1.block k hk)).mono (fun k hk => by omega)) (cs := cs) (ins := ins) ((hI.kept (w' := w1) (fun k hk => hb1.block k hk)).mono (fun k hk => by omega))
  have HW := Lib.hid hw1
  clear hS hI hw1
  go_enter Tryz.func4, Tryz.ntmps4
  go_wp2_with (go_at_call 9; rw [HW.out]; refine hin.mono ?_)
  intro x2 w2 hp
  obtain ⟨⟨v2, okk, rfl, hok⟩, hb2⟩ := hp
  cases okk with
  | false =>
    go_wp2
    go_ret
    exact ⟨rfl, hb1.trans (hb2.mono hb1.size)⟩
  | true =>
    obtain ⟨hen, han⟩ := hok rfl
    have n0' := below_blk hb2 n0
    have n1' := below_blk hb2 n1
    obtain ⟨m0, m1, m2, m3, m4⟩ := blk_cells n1'
    have hb12 := hb1.trans (hb2.mono hb1.size)
    have hlg := large_any (hO.kept (w' := w2) (fun k hk => hb12.block k hk)) (fun k hk => Nat.lt_of_lt_of_le hk hb12.size)
    clear hin hok
    go_wp2_with (go_at_call 11; refine hlg.mono ?_)
    intro x3 w3 hp
    obtain ⟨⟨b, rfl⟩, hb3⟩ := hp
    have hb13 := hb12.trans (hb3.mono hb12.size)
    cases b with
    | true =>
      go_wp2
      go_ret
      exact ⟨rfl, hb13⟩
    | false =>
      have n0'' := below_blk hb3 n0'
      have n1'' := below_blk hb3 n1'
      have hsz3 : w.heap.size + 2 ≤ w3.heap.size := by have := hb2.size; have := hb3.size; omega
      have hcv := const_at (P := Tryz.prog) (w3.alloc (.cells #[.string ⟨#[97]⟩, .string ⟨#[98]⟩] 9)) 29 5 #[.int .u8 120] 1 1 (w3.heap.size + 1) (by simp) Tryz.underlying29 Tryz.underlying5
      obtain ⟨m0, m1, m2, m3, m4⟩ := blk_cells (alloc_heap (o' := .cells #[.int .u8 120] 5 (1, 2)) (alloc_heap (o' := .cells #[.string ⟨#[97]⟩, .string ⟨#[98]⟩] 9) n1''))
      have k0 : ((((w3.alloc (.cells #[.string ⟨#[97]⟩, .string ⟨#[98]⟩] 9)).alloc (.cells #[.int .u8 120] 5 (1, 2))).alloc (.cells #[.int .i64 1, .bool false, .slice (some ⟨w3.heap.size + 1, 0, none⟩) 1 1, .slice none 0 0, .slice none 0 0, .int .i64 ok, .bool oe, .slice oD on odc, .slice oN onn onc, .slice oS osn osc] 32)).alloc (.cells #[.string ⟨#[47, 105, 110]⟩, .int .i64 2, .bool false, .slice none 0 0, .slice (some ⟨w3.heap.size, 0, none⟩) 2 2, .slice (some ⟨w3.heap.size + 1 + 1, 0, none⟩) 2 2] 43)).heap[w.heap.size]? = some (.cells #[.slice eA env.length ec, .slice aA args.length ac, .slice iA ins.length ic] 26 (0, 0)) := alloc_heap (alloc_heap (alloc_heap (alloc_heap n0'')))
      have c2 := (blk3 k0).2.2
      have f2 := Lib.frozen_of_heap k0 2
      have hL6 := laid_in hb13 hsz3 n0'' n1'' hE hA hO 9 5 (1, 2)
      obtain ⟨e0, e1, e2⟩ := blk3 hL6.world
      have hWd1 := hL6.wd1 hen han
      have hg6 := hg.grown hL6.below
      have hRun1 := callV (o := other) (ins1_a other) (ins1_in other) hg6 hWd1
      have hpb1 : bs progV = ⟨progV.toArray⟩ := rfl
      rw [hpb1] at hRun1
      unfold progV at hRun1
      clear hlg n0 n1 n0' n1' n0'' n1'' hWd1 hg6 hpb1
      go_wp2_with (go_at_call 8; refine hRun1.mono ?_)
      intro x4 w4 hp
      obtain ⟨cl1, rfl, hx4, hb4⟩ := hp
      obtain ⟨dA1, dc1, nA1, nc1, sA1, sc1, rfl, _⟩ := hx4.cells
      have hb46 := hb4.alloc (o := .cells #[.int .i64 2, .bool false, .slice dA1 0 dc1, .slice nA1 2 nc1, .slice sA1 2 sc1] 32) hb4.size
      have hL4 := hL6.kept hb46
      have hb04 := hL4.below
      have hs4 : w3.heap.size + 4 ≤ w4.heap.size := Nat.le_trans hL6.lt.2 hb4.size
      simp only [outV, leafNd, Nd.kind, Nd.exec, Nd.data, Nd.names, Nd.nodes, List.length_nil, List.length_cons, Nat.zero_add] at hx4 ⊢
      clear hRun1 hcv m0 m1 m2 m3 m4 k0 c2 f2 e0 e1 e2
      have q1 : (name == [47, 105, 110]) = false := by simp [c1]
      have q2 : (name == []) = false := by simp [c2]
      have hbz := bs_size name
      have q4 : (name.take 4 == [47, 105, 110, 47]) = true := by simp [c4]
      have q5 := name_cut name
      rw [c4] at q5
      have qs : (((⟨#[47, 111, 116, 104, 101, 114]⟩ : ByteArray).extract 0 4).toList == [47, 105, 110, 47]) = false := by kernel_rfl
      have qb : Below (w4.alloc (.cells #[.int .i64 2, .bool false, .slice dA1 0 dc1, .slice nA1 2 nc1, .slice sA1 2 sc1] 32)).heap.size (w4.alloc (.cells #[.int .i64 2, .bool false, .slice dA1 0 dc1, .slice nA1 2 nc1, .slice sA1 2 sc1] 32)) ((w4.alloc (.cells #[.int .i64 2, .bool false, .slice dA1 0 dc1, .slice nA1 2 nc1, .slice sA1 2 sc1] 32)).alloc (.cells #[.string ⟨#[47, 111, 116, 104, 101, 114]⟩, .int .i64 ok, .bool oe, .slice oD on odc, .slice oN onn onc, .slice oS osn osc] 43)) := (Below.refl _ _).alloc (Nat.le_refl _) _
      obtain ⟨m0, m1, m2, m3, m4⟩ := blk_cells hL4.node
      have d2 := (blk3 (below_blk qb hL4.world)).2.2
      have hown7 : ((w4.alloc (.cells #[.int .i64 2, .bool false, .slice dA1 0 dc1, .slice nA1 2 nc1, .slice sA1 2 sc1] 32)).alloc (.cells #[.string ⟨#[47, 111, 116, 104, 101, 114]⟩, .int .i64 ok, .bool oe, .slice oD on odc, .slice oN onn onc, .slice oS osn osc] 43)).ownsRow (w4.heap.size + 1) 43 6 (.slice (some ⟨w4.heap.size + 1, 0, none⟩) 1 1) 1 [.string ⟨#[47, 111, 116, 104, 101, 114]⟩, .int .i64 ok, .bool oe, .slice oD on odc, .slice oN onn onc, .slice oS osn osc] := ⟨rfl, .inr ⟨w4.heap.size + 1, 1, #[.string ⟨#[47, 111, 116, 104, 101, 114]⟩, .int .i64 ok, .bool oe, .slice oD on odc, .slice oN onn onc, .slice oS osn osc], rfl, Nat.le_refl _, heap_alloc2_new w4 _ _, Nat.le_refl _, by simp [maxLen], rfl, rfl⟩⟩
      have hrow7 := below_blk qb hL4.row
      go_wp2_with (at_builtin; (refine wpList_append_new rfl _ _ 24 rfl (w4.heap.size + 1) 43 i0 (.agg #[.string ⟨#[]⟩, .int .i64 0, .bool false, .slice none 0 0, .slice none 0 0, .slice none 0 0]) 6 104 Tryz.underlying24 hi hz0 hz1 hz2 rfl (by decide) (.slice (some ⟨w4.heap.size + 1, 0, none⟩) 1 1) 1 [.string ⟨#[47, 111, 116, 104, 101, 114]⟩, .int .i64 ok, .bool oe, .slice oD on odc, .slice oN onn onc, .slice oS osn osc] rfl hown7 ⟨w3.heap.size + 1 + 1 + 1, 0, none⟩ 1 1 [.string ⟨#[47, 105, 110]⟩, .int .i64 2, .bool false, .slice none 0 0, .slice (some ⟨w3.heap.size, 0, none⟩) 2 2, .slice (some ⟨w3.heap.size + 1 + 1, 0, none⟩) 2 2] rfl rfl ?c1 ?c2 (by decide) ?c3 ?c4 ?c5 ?_))
      case c1 => exact fun j u hu => by have := cells_at hrow7 j u hu; rw [Nat.zero_add] at this; exact this
      case c2 => exact ⟨rfl, rfl, rfl, rfl, rfl, rfl⟩
      case c3 => unfold maxLen; omega

      intro v' w8 hown8 hgr hfr
      have hk8 : ∀ k, k < (w4.alloc (.cells #[.int .i64 2, .bool false, .slice dA1 0 dc1, .slice nA1 2 nc1, .slice sA1 2 sc1] 32)).heap.size → w8.heap[k]? = (w4.alloc (.cells #[.int .i64 2, .bool false, .slice dA1 0 dc1, .slice nA1 2 nc1, .slice sA1 2 sc1] 32)).heap[k]? := fun k hk => (hgr.block k (by simp at hk ⊢; omega) (by simp [Value.ownBlock]; simp at hk; omega)).trans (qb.block k hk)
      have hs8 : (w4.alloc (.cells #[.int .i64 2, .bool false, .slice dA1 0 dc1, .slice nA1 2 nc1, .slice sA1 2 sc1] 32)).heap.size ≤ w8.heap.size := Nat.le_trans qb.size hgr.size
      have hWd := hL4.wd2 (w8 := w8) (M := w4.heap.size + 1) (v := v') (nm := othN) hen han (by simp [othN]) (by simp) hk8 hs8 hown8
      have kw := (hk8 _ (by have := hL4.lt; omega)).trans hL4.world
      have x8 := (hk8 w4.heap.size (by simp)).trans (heap_alloc_new w4 (.cells #[.int .i64 2, .bool false, .slice dA1 0 dc1, .slice nA1 2 nc1, .slice sA1 2 sc1] 32))
      obtain ⟨A8, cp8, rfl⟩ := own_slice hown8
      have c8 := (blk3 kw).2.2
      have f8 := Lib.frozen_of_heap kw 2
      have kw9 : (w8.setCell ⟨w.heap.size, 2, none⟩ (.slice A8 2 cp8)).heap[w.heap.size]? = some (.cells #[.slice eA env.length ec, .slice aA args.length ac, .slice A8 2 cp8] 26 (0, 0)) := blk_set kw _
      obtain ⟨g0, g1, g2⟩ := blk3 kw9
      have hb08 : Below w.heap.size w w8 := ((hb04.trans (qb.mono hb04.size)).grown hgr (Nat.le_trans hb04.size qb.size) (fun g hg => by simp [Value.ownBlock] at hg; have := hb04.size; simp at this; omega))
      have hb09 : Below w.heap.size w (w8.setCell ⟨w.heap.size, 2, none⟩ (.slice A8 2 cp8)) := hb08.setCell (by show w.heap.size ≤ w.heap.size; omega) _
      have hne4 : w4.heap.size ≠ w.heap.size := by have := hL6.lt; omega
      have hx9 := hx4.kept (w' := w8.setCell ⟨w.heap.size, 2, none⟩ (.slice A8 2 cp8)) (fun k hk => by have h1 := hk.1; have h2 := hk.2; have h3 := hL6.lt; exact (Below.heap_setCell _ _ _ _ (show k ≠ w.heap.size by omega)).trans ((hk8 k (by simp; omega)).trans (Below.heap_alloc _ _ _ h2)))
      have xb9 : (w8.setCell ⟨w.heap.size, 2, none⟩ (.slice A8 2 cp8)).heap[w4.heap.size]? = some (.cells #[.int .i64 2, .bool false, .slice dA1 0 dc1, .slice nA1 2 nc1, .slice sA1 2 sc1] 32) := (Below.heap_setCell _ _ _ _ hne4).trans x8
      have hg9 := hg.grown hb09
      have hs9 : (w8.setCell ⟨w.heap.size, 2, none⟩ (.slice A8 2 cp8)).heap.size = w8.heap.size := by simp
      have hRun2 := callV (o := other) (ins2_a othN_ok other) (ins2_in othN_ok other) hg9 hWd
      have hpb2 : bs progV = ⟨progV.toArray⟩ := rfl
      rw [hpb2] at hRun2
      unfold progV at hRun2
      have HHgr := Lib.hid hgr
      have HHfr := Lib.hid hfr
      clear hgr hfr hWd hown7 hrow7 m0 m1 m2 m3 m4 d2 hpb2 hown8
      go_wp2_with (go_at_call 8; refine hRun2.mono ?_)
      intro x10 w10 hp
      obtain ⟨cl2, rfl, hy10, hb10⟩ := hp
      obtain ⟨dA2, dc2, nA2, nc2, sA2, sc2, rfl, _⟩ := hy10.cells
      simp only [outV, leafNd, Nd.kind, Nd.exec, Nd.data, Nd.names, Nd.nodes, List.length_nil, List.length_cons, Nat.zero_add] at hy10 ⊢
      have hb11 := hb10.alloc (o := .cells #[.int .i64 2, .bool false, .slice dA2 0 dc2, .slice nA2 2 nc2, .slice sA2 2 sc2] 32) hb10.size
      have xb11 := below_blk hb11 xb9
      have yb11 := heap_alloc_new w10 (.cells #[.int .i64 2, .bool false, .slice dA2 0 dc2, .slice nA2 2 nc2, .slice sA2 2 sc2] 32)
      obtain ⟨xx0, xx1, xx2, xx3, xx4⟩ := blk_cells xb11
      obtain ⟨yy0, yy1, yy2, yy3, yy4⟩ := blk_cells yb11
      have hx11 := hx9.kept (w' := w10.alloc (.cells #[.int .i64 2, .bool false, .slice dA2 0 dc2, .slice nA2 2 nc2, .slice sA2 2 sc2] 32)) (fun k hk => hb11.block k (by have h2 := hk.2; have h3 := hs8; rw [hs9]; simp at h3; omega))
      have hy11 := hy10.kept (w' := w10.alloc (.cells #[.int .i64 2, .bool false, .slice dA2 0 dc2, .slice nA2 2 nc2, .slice sA2 2 sc2] 32)) (fun k hk => Below.heap_alloc _ _ _ hk.2)
      have hsame := same_any outV _ _ (w10.alloc (.cells #[.int .i64 2, .bool false, .slice dA2 0 dc2, .slice nA2 2 nc2, .slice sA2 2 sc2] 32)) _ _ hx11 hy11 (fun k hk => by have h2 := hk.2; have h3 := hb11.size; rw [hs9] at h3; have h4 := hs8; simp at h3 h4 ⊢; omega) (fun k hk => by have h2 := hk.2; simp; omega)
      clear hRun2 xb9 hx9
      go_wp2_with (go_at_call 10; refine hsame.mono ?_)
      rintro x12 w12 rfl hb12'
      have hb12 : Below (w10.alloc (.cells #[.int .i64 2, .bool false, .slice dA2 0 dc2, .slice nA2 2 nc2, .slice sA2 2 sc2] 32)).heap.size (w10.alloc (.cells #[.int .i64 2, .bool false, .slice dA2 0 dc2, .slice nA2 2 nc2, .slice sA2 2 sc2] 32)) w12 := by rw [show (w10.alloc (.cells #[.int .i64 2, .bool false, .slice dA2 0 dc2, .slice nA2 2 nc2, .slice sA2 2 sc2] 32)).heap.size = w10.heap.size + 1 by simp]; exact hb12'
      have xb12 := below_blk hb12 xb11
      have hx12 := hx11.kept (w' := w12) (fun k hk => hb12.block k (by have h2 := hk.2; have h3 := hb11.size; rw [hs9] at h3; have h4 := hs8; simp at h3 h4 ⊢; omega))
      obtain ⟨xx0, xx1, xx2, xx3, xx4⟩ := blk_cells xb12
      have hfin : Below w.heap.size w w12 := (hb09.trans (hb11.mono (by have := hb08.size; rw [hs9]; omega))).trans (hb12.mono (by have := hb09.size; have := hb11.size; omega))
      obtain ⟨g, o, f0, q0, f1, q1', rfl, r0, r1, v0, v1⟩ := outV_look hx12
      clear hb12' hx11 hy11 hy10 hsame xb11 yb11 yy0 yy1 yy2 yy3 yy4 hL4 hL6 hx4
      go_wp2
      go_ret
      exact ⟨rfl, hfin⟩

set_option maxHeartbeats 100000000 in
set_option maxRecDepth 100000 in
theorem law_apart_e {w : World} {env : Pairs} {args : List (List UInt8)} {ins : List (List UInt8 × Nd)} {cs : List Value} {eA aA iA : Option Addr} {ec ac ic : Nat} {name : List UInt8} {other : Nd} {ocl : List Value}
    (hE : SliceIs (fun k => k < w.heap.size) 2 (.slice eA env.length ec) env.length (pairCells env) w) (hA : SliceIs (fun k => k < w.heap.size) 1 (.slice aA args.length ac) args.length (strCells args) w)
    (hS : SliceIs (fun k => k < w.heap.size) 6 (.slice iA ins.length ic) ins.length cs w) (hI : InsIs (fun k => k < w.heap.size) w ins cs) (hO : NdIs (fun k => k < w.heap.size) w other ocl) (hnm : name.length ≤ 281474976710656) (c1 : ¬ name = [47, 105, 110]) (c2 : ¬ name = []) (c3 : ¬ name.length < 4) (c4 : ¬ name.take 4 = [47, 105, 110, 47]) (hg : Glob w) :
    Calls Tryz.prog 4 #[.agg #[.slice eA env.length ec, .slice aA args.length ac, .slice iA ins.length ic], .string (bs name), .agg ocl.toArray] w fun e w' => e = .returned (.bool true) ∧ Below w.heap.size w w' := by
  obtain ⟨i0, hi, hz0, hz1, hz2⟩ := info_parts infoIn
  obtain ⟨oD, odc, oN, onc, oS, osc, rfl, _⟩ := hO.cells
  generalize other.kind = ok at *
  generalize other.exec = oe at *
  generalize other.data.length = on at *
  generalize other.names.length = onn at *
  generalize other.nodes.length = osn at *
  generalize hw1 : (w.alloc (.cells #[.slice eA env.length ec, .slice aA args.length ac, .slice iA ins.length ic] 26)).alloc (.cells #[.int .i64 ok, .bool oe, .slice oD on odc, .slice oN onn onc, .slice oS osn osc] 32) = w1
  have hb1 : Below w.heap.size w w1 := by rw [← hw1]; exact ((Below.refl _ _).alloc (Nat.le_refl _) _).alloc (by simp) _
  have n0 : w1.heap[w.heap.size]? = some (.cells #[.slice eA env.length ec, .slice aA args.length ac, .slice iA ins.length ic] 26 (0, 0)) := by rw [← hw1]; exact alloc_heap (heap_alloc_new w _)
  have n1 : w1.heap[w.heap.size + 1]? = some (.cells #[.int .i64 ok, .bool oe, .slice oD on odc, .slice oN onn onc, .slice oS osn osc] 32 (0, 0)) := by rw [← hw1]; exact heap_alloc2_new w _ _
  have hs1 : w1.heap.size = w.heap.size + 2 := by rw [← hw1]; simp
  have hin := inputs_any (w := w1) (eA := eA) (ec := ec) (aA := aA) (ac := ac) hE.1 hA.1 ((hS.kept (w' := w1) (fun k hk => hb1.block k hk)).mono (fun k hk => by omega)) (cs := cs) (ins := ins) ((hI.kept (w' := w1) (fun k hk => hb1.block k hk)).mono (fun k hk => by omega))
  have HW := Lib.hid hw1
  clear hS hI hw1
  go_enter Tryz.func4, Tryz.ntmps4
  go_wp2_with (go_at_call 9; rw [HW.out]; refine hin.mono ?_)
  intro x2 w2 hp
  obtain ⟨⟨v2, okk, rfl, hok⟩, hb2⟩ := hp
  cases okk with
  | false =>
    go_wp2
    go_ret
    exact ⟨rfl, hb1.trans (hb2.mono hb1.size)⟩
  | true =>
    obtain ⟨hen, han⟩ := hok rfl
    have n0' := below_blk hb2 n0
    have n1' := below_blk hb2 n1
    obtain ⟨m0, m1, m2, m3, m4⟩ := blk_cells n1'
    have hb12 := hb1.trans (hb2.mono hb1.size)
    have hlg := large_any (hO.kept (w' := w2) (fun k hk => hb12.block k hk)) (fun k hk => Nat.lt_of_lt_of_le hk hb12.size)
    clear hin hok
    go_wp2_with (go_at_call 11; refine hlg.mono ?_)
    intro x3 w3 hp
    obtain ⟨⟨b, rfl⟩, hb3⟩ := hp
    have hb13 := hb12.trans (hb3.mono hb12.size)
    cases b with
    | true =>
      go_wp2
      go_ret
      exact ⟨rfl, hb13⟩
    | false =>
      have n0'' := below_blk hb3 n0'
      have n1'' := below_blk hb3 n1'
      have hsz3 : w.heap.size + 2 ≤ w3.heap.size := by have := hb2.size; have := hb3.size; omega
      have hcv := const_at (P := Tryz.prog) (w3.alloc (.cells #[.string ⟨#[97]⟩, .string ⟨#[98]⟩] 9)) 29 5 #[.int .u8 120] 1 1 (w3.heap.size + 1) (by simp) Tryz.underlying29 Tryz.underlying5
      obtain ⟨m0, m1, m2, m3, m4⟩ := blk_cells (alloc_heap (o' := .cells #[.int .u8 120] 5 (1, 2)) (alloc_heap (o' := .cells #[.string ⟨#[97]⟩, .string ⟨#[98]⟩] 9) n1''))
      have k0 : ((((w3.alloc (.cells #[.string ⟨#[97]⟩, .string ⟨#[98]⟩] 9)).alloc (.cells #[.int .u8 120] 5 (1, 2))).alloc (.cells #[.int .i64 1, .bool false, .slice (some ⟨w3.heap.size + 1, 0, none⟩) 1 1, .slice none 0 0, .slice none 0 0, .int .i64 ok, .bool oe, .slice oD on odc, .slice oN onn onc, .slice oS osn osc] 32)).alloc (.cells #[.string ⟨#[47, 105, 110]⟩, .int .i64 2, .bool false, .slice none 0 0, .slice (some ⟨w3.heap.size, 0, none⟩) 2 2, .slice (some ⟨w3.heap.size + 1 + 1, 0, none⟩) 2 2] 43)).heap[w.heap.size]? = some (.cells #[.slice eA env.length ec, .slice aA args.length ac, .slice iA ins.length ic] 26 (0, 0)) := alloc_heap (alloc_heap (alloc_heap (alloc_heap n0'')))
      have c2 := (blk3 k0).2.2
      have f2 := Lib.frozen_of_heap k0 2
      have hL6 := laid_in hb13 hsz3 n0'' n1'' hE hA hO 9 5 (1, 2)
      obtain ⟨e0, e1, e2⟩ := blk3 hL6.world
      have hWd1 := hL6.wd1 hen han
      have hg6 := hg.grown hL6.below
      have hRun1 := callV (o := other) (ins1_a other) (ins1_in other) hg6 hWd1
      have hpb1 : bs progV = ⟨progV.toArray⟩ := rfl
      rw [hpb1] at hRun1
      unfold progV at hRun1
      clear hlg n0 n1 n0' n1' n0'' n1'' hWd1 hg6 hpb1
      go_wp2_with (go_at_call 8; refine hRun1.mono ?_)
      intro x4 w4 hp
      obtain ⟨cl1, rfl, hx4, hb4⟩ := hp
      obtain ⟨dA1, dc1, nA1, nc1, sA1, sc1, rfl, _⟩ := hx4.cells
      have hb46 := hb4.alloc (o := .cells #[.int .i64 2, .bool false, .slice dA1 0 dc1, .slice nA1 2 nc1, .slice sA1 2 sc1] 32) hb4.size
      have hL4 := hL6.kept hb46
      have hb04 := hL4.below
      have hs4 : w3.heap.size + 4 ≤ w4.heap.size := Nat.le_trans hL6.lt.2 hb4.size
      simp only [outV, leafNd, Nd.kind, Nd.exec, Nd.data, Nd.names, Nd.nodes, List.length_nil, List.length_cons, Nat.zero_add] at hx4 ⊢
      clear hRun1 hcv m0 m1 m2 m3 m4 k0 c2 f2 e0 e1 e2
      have q1 : (name == [47, 105, 110]) = false := by simp [c1]
      have q2 : (name == []) = false := by simp [c2]
      have hbz := bs_size name
      have q4 : (name.take 4 == [47, 105, 110, 47]) = false := by simp [c4]
      have q5 : (((bs name).extract 0 4).toList == [47, 105, 110, 47]) = false := by rw [name_cut, q4]
      have hok : nameOk name := ⟨by omega, c4⟩
      have qs : (((⟨#[47, 111, 116, 104, 101, 114]⟩ : ByteArray).extract 0 4).toList == [47, 105, 110, 47]) = false := by kernel_rfl
      have qb : Below (w4.alloc (.cells #[.int .i64 2, .bool false, .slice dA1 0 dc1, .slice nA1 2 nc1, .slice sA1 2 sc1] 32)).heap.size (w4.alloc (.cells #[.int .i64 2, .bool false, .slice dA1 0 dc1, .slice nA1 2 nc1, .slice sA1 2 sc1] 32)) ((w4.alloc (.cells #[.int .i64 2, .bool false, .slice dA1 0 dc1, .slice nA1 2 nc1, .slice sA1 2 sc1] 32)).alloc (.cells #[.string (bs name), .int .i64 ok, .bool oe, .slice oD on odc, .slice oN onn onc, .slice oS osn osc] 43)) := (Below.refl _ _).alloc (Nat.le_refl _) _
      obtain ⟨m0, m1, m2, m3, m4⟩ := blk_cells hL4.node
      have d2 := (blk3 (below_blk qb hL4.world)).2.2
      have hown7 : ((w4.alloc (.cells #[.int .i64 2, .bool false, .slice dA1 0 dc1, .slice nA1 2 nc1, .slice sA1 2 sc1] 32)).alloc (.cells #[.string (bs name), .int .i64 ok, .bool oe, .slice oD on odc, .slice oN onn onc, .slice oS osn osc] 43)).ownsRow (w4.heap.size + 1) 43 6 (.slice (some ⟨w4.heap.size + 1, 0, none⟩) 1 1) 1 [.string (bs name), .int .i64 ok, .bool oe, .slice oD on odc, .slice oN onn onc, .slice oS osn osc] := ⟨rfl, .inr ⟨w4.heap.size + 1, 1, #[.string (bs name), .int .i64 ok, .bool oe, .slice oD on odc, .slice oN onn onc, .slice oS osn osc], rfl, Nat.le_refl _, heap_alloc2_new w4 _ _, Nat.le_refl _, by simp [maxLen], rfl, rfl⟩⟩
      have hrow7 := below_blk qb hL4.row
      go_wp2_with (at_builtin; (refine wpList_append_new rfl _ _ 24 rfl (w4.heap.size + 1) 43 i0 (.agg #[.string ⟨#[]⟩, .int .i64 0, .bool false, .slice none 0 0, .slice none 0 0, .slice none 0 0]) 6 104 Tryz.underlying24 hi hz0 hz1 hz2 rfl (by decide) (.slice (some ⟨w4.heap.size + 1, 0, none⟩) 1 1) 1 [.string (bs name), .int .i64 ok, .bool oe, .slice oD on odc, .slice oN onn onc, .slice oS osn osc] rfl hown7 ⟨w3.heap.size + 1 + 1 + 1, 0, none⟩ 1 1 [.string ⟨#[47, 105, 110]⟩, .int .i64 2, .bool false, .slice none 0 0, .slice (some ⟨w3.heap.size, 0, none⟩) 2 2, .slice (some ⟨w3.heap.size + 1 + 1, 0, none⟩) 2 2] rfl rfl ?c1 ?c2 (by decide) ?c3 ?c4 ?c5 ?_))
      case c1 => exact fun j u hu => by have := cells_at hrow7 j u hu; rw [Nat.zero_add] at this; exact this
      case c2 => exact ⟨rfl, rfl, rfl, rfl, rfl, rfl⟩
      case c3 => unfold maxLen; omega

      intro v' w8 hown8 hgr hfr
      have hk8 : ∀ k, k < (w4.alloc (.cells #[.int .i64 2, .bool false, .slice dA1 0 dc1, .slice nA1 2 nc1, .slice sA1 2 sc1] 32)).heap.size → w8.heap[k]? = (w4.alloc (.cells #[.int .i64 2, .bool false, .slice dA1 0 dc1, .slice nA1 2 nc1, .slice sA1 2 sc1] 32)).heap[k]? := fun k hk => (hgr.block k (by simp at hk ⊢; omega) (by simp [Value.ownBlock]; simp at hk; omega)).trans (qb.block k hk)
      have hs8 : (w4.alloc (.cells #[.int .i64 2, .bool false, .slice dA1 0 dc1, .slice nA1 2 nc1, .slice sA1 2 sc1] 32)).heap.size ≤ w8.heap.size := Nat.le_trans qb.size hgr.size
      have hWd := hL4.wd2 (w8 := w8) (M := w4.heap.size + 1) (v := v') (nm := name) hen han hnm (by simp) hk8 hs8 hown8
      have kw := (hk8 _ (by have := hL4.lt; omega)).trans hL4.world
      have x8 := (hk8 w4.heap.size (by simp)).trans (heap_alloc_new w4 (.cells #[.int .i64 2, .bool false, .slice dA1 0 dc1, .slice nA1 2 nc1, .slice sA1 2 sc1] 32))
      obtain ⟨A8, cp8, rfl⟩ := own_slice hown8
      have c8 := (blk3 kw).2.2
      have f8 := Lib.frozen_of_heap kw 2
      have kw9 : (w8.setCell ⟨w.heap.size, 2, none⟩ (.slice A8 2 cp8)).heap[w.heap.size]? = some (.cells #[.slice eA env.length ec, .slice aA args.length ac, .slice A8 2 cp8] 26 (0, 0)) := blk_set kw _
      obtain ⟨g0, g1, g2⟩ := blk3 kw9
      have hb08 : Below w.heap.size w w8 := ((hb04.trans (qb.mono hb04.size)).grown hgr (Nat.le_trans hb04.size qb.size) (fun g hg => by simp [Value.ownBlock] at hg; have := hb04.size; simp at this; omega))
      have hb09 : Below w.heap.size w (w8.setCell ⟨w.heap.size, 2, none⟩ (.slice A8 2 cp8)) := hb08.setCell (by show w.heap.size ≤ w.heap.size; omega) _
      have hne4 : w4.heap.size ≠ w.heap.size := by have := hL6.lt; omega
      have hx9 := hx4.kept (w' := w8.setCell ⟨w.heap.size, 2, none⟩ (.slice A8 2 cp8)) (fun k hk => by have h1 := hk.1; have h2 := hk.2; have h3 := hL6.lt; exact (Below.heap_setCell _ _ _ _ (show k ≠ w.heap.size by omega)).trans ((hk8 k (by simp; omega)).trans (Below.heap_alloc _ _ _ h2)))
      have xb9 : (w8.setCell ⟨w.heap.size, 2, none⟩ (.slice A8 2 cp8)).heap[w4.heap.size]? = some (.cells #[.int .i64 2, .bool false, .slice dA1 0 dc1, .slice nA1 2 nc1, .slice sA1 2 sc1] 32) := (Below.heap_setCell _ _ _ _ hne4).trans x8
      have hg9 := hg.grown hb09
      have hs9 : (w8.setCell ⟨w.heap.size, 2, none⟩ (.slice A8 2 cp8)).heap.size = w8.heap.size := by simp
      have hRun2 := callV (o := other) (ins2_a hok other) (ins2_in hok other) hg9 hWd
      have hpb2 : bs progV = ⟨progV.toArray⟩ := rfl
      rw [hpb2] at hRun2
      unfold progV at hRun2
      have HHgr := Lib.hid hgr
      have HHfr := Lib.hid hfr
      clear hgr hfr hWd hown7 hrow7 m0 m1 m2 m3 m4 d2 hpb2 hown8
      go_wp2_with (go_at_call 8; refine hRun2.mono ?_)
      intro x10 w10 hp
      obtain ⟨cl2, rfl, hy10, hb10⟩ := hp
      obtain ⟨dA2, dc2, nA2, nc2, sA2, sc2, rfl, _⟩ := hy10.cells
      simp only [outV, leafNd, Nd.kind, Nd.exec, Nd.data, Nd.names, Nd.nodes, List.length_nil, List.length_cons, Nat.zero_add] at hy10 ⊢
      have hb11 := hb10.alloc (o := .cells #[.int .i64 2, .bool false, .slice dA2 0 dc2, .slice nA2 2 nc2, .slice sA2 2 sc2] 32) hb10.size
      have xb11 := below_blk hb11 xb9
      have yb11 := heap_alloc_new w10 (.cells #[.int .i64 2, .bool false, .slice dA2 0 dc2, .slice nA2 2 nc2, .slice sA2 2 sc2] 32)
      obtain ⟨xx0, xx1, xx2, xx3, xx4⟩ := blk_cells xb11
      obtain ⟨yy0, yy1, yy2, yy3, yy4⟩ := blk_cells yb11
      have hx11 := hx9.kept (w' := w10.alloc (.cells #[.int .i64 2, .bool false, .slice dA2 0 dc2, .slice nA2 2 nc2, .slice sA2 2 sc2] 32)) (fun k hk => hb11.block k (by have h2 := hk.2; have h3 := hs8; rw [hs9]; simp at h3; omega))
      have hy11 := hy10.kept (w' := w10.alloc (.cells #[.int .i64 2, .bool false, .slice dA2 0 dc2, .slice nA2 2 nc2, .slice sA2 2 sc2] 32)) (fun k hk => Below.heap_alloc _ _ _ hk.2)
      have hsame := same_any outV _ _ (w10.alloc (.cells #[.int .i64 2, .bool false, .slice dA2 0 dc2, .slice nA2 2 nc2, .slice sA2 2 sc2] 32)) _ _ hx11 hy11 (fun k hk => by have h2 := hk.2; have h3 := hb11.size; rw [hs9] at h3; have h4 := hs8; simp at h3 h4 ⊢; omega) (fun k hk => by have h2 := hk.2; simp; omega)
      clear hRun2 xb9 hx9
      go_wp2_with (go_at_call 10; refine hsame.mono ?_)
      rintro x12 w12 rfl hb12'
      have hb12 : Below (w10.alloc (.cells #[.int .i64 2, .bool false, .slice dA2 0 dc2, .slice nA2 2 nc2, .slice sA2 2 sc2] 32)).heap.size (w10.alloc (.cells #[.int .i64 2, .bool false, .slice dA2 0 dc2, .slice nA2 2 nc2, .slice sA2 2 sc2] 32)) w12 := by rw [show (w10.alloc (.cells #[.int .i64 2, .bool false, .slice dA2 0 dc2, .slice nA2 2 nc2, .slice sA2 2 sc2] 32)).heap.size = w10.heap.size + 1 by simp]; exact hb12'
      have xb12 := below_blk hb12 xb11
      have hx12 := hx11.kept (w' := w12) (fun k hk => hb12.block k (by have h2 := hk.2; have h3 := hb11.size; rw [hs9] at h3; have h4 := hs8; simp at h3 h4 ⊢; omega))
      obtain ⟨xx0, xx1, xx2, xx3, xx4⟩ := blk_cells xb12
      have hfin : Below w.heap.size w w12 := (hb09.trans (hb11.mono (by have := hb08.size; rw [hs9]; omega))).trans (hb12.mono (by have := hb09.size; have := hb11.size; omega))
      obtain ⟨g, o, f0, q0, f1, q1', rfl, r0, r1, v0, v1⟩ := outV_look hx12
      clear hb12' hx11 hy11 hy10 hsame xb11 yb11 yy0 yy1 yy2 yy3 yy4 hL4 hL6 hx4
      go_wp2
      go_ret
      exact ⟨rfl, hfin⟩

theorem law_apart {w : World} {env : Pairs} {args : List (List UInt8)} {ins : List (List UInt8 × Nd)} {cs : List Value} {eA aA iA : Option Addr} {ec ac ic : Nat} {name : List UInt8} {other : Nd} {ocl : List Value}
    (hE : SliceIs (fun k => k < w.heap.size) 2 (.slice eA env.length ec) env.length (pairCells env) w) (hA : SliceIs (fun k => k < w.heap.size) 1 (.slice aA args.length ac) args.length (strCells args) w)
    (hS : SliceIs (fun k => k < w.heap.size) 6 (.slice iA ins.length ic) ins.length cs w) (hI : InsIs (fun k => k < w.heap.size) w ins cs) (hO : NdIs (fun k => k < w.heap.size) w other ocl) (hnm : name.length ≤ 281474976710656) (hg : Glob w) :
    Calls Tryz.prog 4 #[.agg #[.slice eA env.length ec, .slice aA args.length ac, .slice iA ins.length ic], .string (bs name), .agg ocl.toArray] w fun e w' => e = .returned (.bool true) ∧ Below w.heap.size w w' := by
  by_cases c1 : name = [47, 105, 110]
  · exact law_apart_a hE hA hS hI hO hnm c1 hg
  by_cases c2 : name = []
  · exact law_apart_b hE hA hS hI hO hnm c2 hg
  by_cases c3 : name.length < 4
  · exact law_apart_c hE hA hS hI hO hnm c1 c2 c3 hg
  by_cases c4 : name.take 4 = [47, 105, 110, 47]
  · exact law_apart_d hE hA hS hI hO hnm c1 c2 c3 c4 hg
  exact law_apart_e hE hA hS hI hO hnm c1 c2 c3 c4 hg
end Go.Proofs.YtejpkjcjoengbaaGreatDoor
