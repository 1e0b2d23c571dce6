/-
  The law VmStops, by walk.
-/
import Derived.Test.YtejpkjcjoengbaaGreatDoorPureS
import Derived.Test.YtejpkjcjoengbaaGreatDoorSame
set_option linter.unusedVariables false
set_option linter.unusedSimpArgs false
namespace Go.Proofs.YtejpkjcjoengbaaGreatDoor
open Go.RowKit

theorem zero_same {w : World} {dA : Option Addr} {dc : Nat} {nA : Option Addr} {nc : Nat} {sA : Option Addr} {sc : Nat} :
    Calls Tryz.prog 10 #[.agg #[.int .i64 0, .bool false, .slice dA 0 dc, .slice nA 0 nc, .slice sA 0 sc], .agg #[.int .i64 0, .bool false, .slice none 0 0, .slice none 0 0, .slice none 0 0]] w fun x w' => x = .returned (.bool true) ∧ Below w.heap.size w w' := by
  refine same_any zeroNd (fun _ => False) (fun _ => False) w [.int .i64 0, .bool false, .slice dA 0 dc, .slice nA 0 nc, .slice sA 0 sc] [.int .i64 0, .bool false, .slice none 0 0, .slice none 0 0, .slice none 0 0] ?_ (zeroNd_is _ _) (fun _ h => h.elim) (fun _ h => h.elim)
  unfold zeroNd
  simp only [NdIs]
  exact ⟨_, _, _, rfl, ⟨Nat.zero_le _, _, _, rfl, fun h => absurd h (by simp)⟩, ⟨Nat.zero_le _, _, _, rfl, fun h => absurd h (by simp)⟩, [], ⟨Nat.zero_le _, _, _, rfl, fun h => absurd h (by simp)⟩, by simp [NdsIs]⟩

set_option maxHeartbeats 4000000 in
set_option maxRecDepth 100000 in
theorem law_stops (s0 b0 : Int) {w : World} (hg : Glob w) :
    Calls Tryz.prog 6 #[.int .i64 s0, .int .i64 b0] w fun e w' => e = .returned (.bool true) ∧ Below w.heap.size w w' := by
  obtain ⟨a, ha, h1⟩ := and1023 s0
  obtain ⟨c, hc, h2⟩ := and1023 b0
  go_enter Tryz.func6, Tryz.ntmps6
  have hRun1 := callS1 hg (1 + a) (1 + c) (by omega) (by omega) (by omega) (by omega)
  have ea : ((1 + a : Nat) : Int) = 1 + (a : Int) := by omega
  have ec : ((1 + c : Nat) : Int) = 1 + (c : Int) := by omega
  rw [ea, ec] at hRun1
  have hpb1 : bs progS1 = ⟨progS1.toArray⟩ := rfl
  rw [hpb1] at hRun1
  unfold progS1 at hRun1
  clear ea ec
  go_wp2_with (go_at_call 8; refine hRun1.mono ?_)
  intro x1 w1 hp1
  obtain ⟨dA1, dc1, nA1, nc1, sA1, sc1, rfl, hS1, hb1⟩ := hp1.mk
  simp only [zeroNd, Nd.kind, Nd.exec, Nd.data, Nd.names, Nd.nodes, List.length_nil] at hS1 ⊢
  have hbb1 := hb1.alloc (o := .cells #[.int .i64 0, .bool false, .slice dA1 0 dc1, .slice nA1 0 nc1, .slice sA1 0 sc1] 32) hb1.size
  have hn1 := heap_alloc_new w1 (.cells #[.int .i64 0, .bool false, .slice dA1 0 dc1, .slice nA1 0 nc1, .slice sA1 0 sc1] 32)
  clear hRun1 hp1 hpb1
  go_wp2_with (go_at_call 10; refine zero_same.mono ?_)
  intro x2 w2 hp2
  obtain ⟨rfl, hb2⟩ := hp2
  have hb02 := hbb1.trans (hb2.mono hbb1.size)
  have hg2 := hg.grown hb02
  obtain ⟨m, hRun2⟩ := callS2 hg2 (1 + c) (by omega) (by omega)
  have ec : ((1 + c : Nat) : Int) = 1 + (c : Int) := by omega
  rw [ec] at hRun2
  have hpb2 : bs progS2 = ⟨progS2.toArray⟩ := rfl
  rw [hpb2] at hRun2
  unfold progS2 at hRun2
  clear ec hbb1 hn1 hb2
  go_wp2_with (go_at_call 8; refine hRun2.mono ?_)
  intro x3 w3 hp3
  obtain ⟨dA3, dc3, nA3, nc3, sA3, sc3, rfl, hS3, hb3⟩ := hp3.mk
  simp only [zeroNd, Nd.kind, Nd.exec, Nd.data, Nd.names, Nd.nodes, List.length_nil] at hS3 ⊢
  have hb03 := hb02.trans (hb3.mono hb02.size)
  have hg3 := hg.grown hb03
  have hRun3 := callS3 hg3
  have hpb3 : bs progS3 = ⟨progS3.toArray⟩ := rfl
  rw [hpb3] at hRun3
  unfold progS3 at hRun3
  clear hRun2 hp3 hpb2 hb02 hb3 hg2
  go_wp2_with (go_at_call 8; refine hRun3.mono ?_)
  intro x4 w4 hp4
  obtain ⟨dA4, dc4, nA4, nc4, sA4, sc4, rfl, hS4, hb4⟩ := hp4.mk
  simp only [leafNd, Nd.kind, Nd.exec, Nd.data, Nd.names, Nd.nodes, List.length_nil, List.length_cons, Nat.zero_add] at hS4 ⊢
  have hbb4 := hb4.alloc (o := .cells #[.int .i64 1, .bool false, .slice dA4 1 dc4, .slice nA4 0 nc4, .slice sA4 0 sc4] 32) hb4.size
  have hn4 := heap_alloc_new w4 (.cells #[.int .i64 1, .bool false, .slice dA4 1 dc4, .slice nA4 0 nc4, .slice sA4 0 sc4] 32)
  have hb04 := hb03.trans (hbb4.mono hb03.size)
  have hg4 := hg.grown hb04
  have hRun4 := callS4 hg4
  have hpb4 : bs progS4 = ⟨progS4.toArray⟩ := rfl
  rw [hpb4] at hRun4
  unfold progS4 at hRun4
  clear hRun3 hp4 hpb3 hb03 hb4 hg3 hbb4
  go_wp2_with (go_at_call 8; refine hRun4.mono ?_)
  intro x5 w5 hp5
  obtain ⟨dA5, dc5, nA5, nc5, sA5, sc5, rfl, hS5, hb5⟩ := hp5.mk
  simp only [zeroNd, Nd.kind, Nd.exec, Nd.data, Nd.names, Nd.nodes, List.length_nil] at hS5 ⊢
  have hbb5 := hb5.alloc (o := .cells #[.int .i64 0, .bool false, .slice dA5 0 dc5, .slice nA5 0 nc5, .slice sA5 0 sc5] 32) hb5.size
  have hb05 := hb04.trans (hbb5.mono hb04.size)
  have hg5 := hg.grown hb05
  have hRun5 := callS5 hg5
  have hpb5 : bs progS3 = ⟨progS3.toArray⟩ := rfl
  rw [hpb5] at hRun5
  unfold progS3 at hRun5
  clear hRun4 hp5 hpb4 hg4
  go_wp2_with (go_at_call 8; refine hRun5.mono ?_)
  intro x6 w6 hp6
  obtain ⟨dA6, dc6, nA6, nc6, sA6, sc6, rfl, hS6, hb6⟩ := hp6.mk
  simp only [zeroNd, Nd.kind, Nd.exec, Nd.data, Nd.names, Nd.nodes, List.length_nil] at hS6 ⊢
  have hbb6 := hb6.alloc (o := .cells #[.int .i64 0, .bool false, .slice dA6 0 dc6, .slice nA6 0 nc6, .slice sA6 0 sc6] 32) hb6.size
  have hb06 := hb05.trans (hbb6.mono hb05.size)
  have n5 := below_blk hbb6 (below_blk hbb5 hn4)
  obtain ⟨_, _, m2, _, _⟩ := blk_cells n5
  have hcv := conv_bytes (y := [97]) ((hS4.kept (fun k hk => Below.heap_alloc _ _ _ hk)).kept (fun k hk => (hbb6.block k (by have := hbb5.size; simp at this ⊢; omega)).trans (hbb5.block k (by simp; omega))))
  have h97 : bs [97] = ⟨#[97]⟩ := rfl
  rw [h97] at hcv
  clear hRun5 hp6 hpb5 hn4 n5 hS1 hS3 hS4 hS5 hS6 hb04 hb05 hb5 hb6 hbb5 hbb6 hg5
  go_wp2
  go_ret
  exact ⟨rfl, hb06⟩
end Go.Proofs.YtejpkjcjoengbaaGreatDoor
