/-
  The law VmCounts, by walk.
-/
import Derived.Test.YtejpkjcjoengbaaGreatDoorPureA
import Derived.Test.YtejpkjcjoengbaaGreatDoorConv
import Derived.Test.YtejpkjcjoengbaaGreatDoorMask
set_option linter.unusedVariables false
set_option linter.unusedSimpArgs false
namespace Go.Proofs.YtejpkjcjoengbaaGreatDoor
open Go.RowKit

def digitsBA : ByteArray := ⟨#[48, 49, 50, 51, 52, 53, 54, 55, 56, 57]⟩
def d3 (m : Nat) : List UInt8 := [UInt8.ofNat (48 + m / 100), UInt8.ofNat (48 + m / 10 % 10), UInt8.ofNat (48 + m % 10)]
def stripF : List UInt8 → List UInt8
  | c :: d :: r => if c = 48 then stripF (d :: r) else c :: d :: r
  | l => l
theorem d3_all : (List.range 256).all (fun m => decide ((digitsBA.extract (m / 100) (m / 100 + 1) ++ digitsBA.extract (m / 10 % 10) (m / 10 % 10 + 1) ++ digitsBA.extract (m % 10) (m % 10 + 1)).data.toList = d3 m) && decide (stripF (d3 m) = Lib.itoa (m : Int))) = true := by kernel_rfl
theorem d3_str (m : Nat) (hm : m < 256) : digitsBA.extract (m / 100) (m / 100 + 1) ++ digitsBA.extract (m / 10 % 10) (m / 10 % 10 + 1) ++ digitsBA.extract (m % 10) (m % 10 + 1) = bs (d3 m) := by
  have := List.all_eq_true.1 d3_all m (List.mem_range.2 hm)
  rw [Bool.and_eq_true] at this
  have h := of_decide_eq_true this.1
  apply ByteArray.ext
  apply Array.ext'
  rw [h]
theorem d3_strip (m : Nat) (hm : m < 256) : stripF (d3 m) = Lib.itoa (m : Int) := by
  have := List.all_eq_true.1 d3_all m (List.mem_range.2 hm)
  rw [Bool.and_eq_true] at this
  exact of_decide_eq_true this.2

set_option maxHeartbeats 2000000 in
set_option maxRecDepth 100000 in
theorem law_counts (n : Int) {w : World} (hg : Glob w) :
    Calls Tryz.prog 5 #[.int .i64 n] w fun e w' => e = .returned (.bool true) ∧ Below w.heap.size w w' := by
  go_enter Tryz.func5, Tryz.ntmps5
  go_wp2
  obtain ⟨m, hm, hbits⟩ := and255 n
  rw [hbits]
  have hm2 : m < 256 := by omega
  clear hbits
  go_quiet (fail)
  have hd3 := d3_str m hm2
  unfold digitsBA at hd3
  rw [hd3]
  have hst := d3_strip m hm2
  have hbq : Below w.heap.size w (w.drewN nq) := ⟨rfl, rfl, rfl, Nat.le_refl _, fun _ _ => rfl⟩
  generalize w.drewN nq = w0 at *
  generalize hl0 : d3 m = l0 at *
  have hl03 : l0.length = 3 := by rw [← hl0]; rfl
  clear hd3 hl0
  go_wp2
  go_loopw [4] (fun s wr => ∃ l : List UInt8, s = .string (bs l) ∧ stripF l = Lib.itoa (m : Int) ∧ l.length ≤ 3 ∧ l ≠ [] ∧ w0 = wr) (fun s wr => match s with | .string x => x.size | _ => 0)
  case atStart => exact ⟨l0, rfl, hst, by omega, by intro e; subst e; simp at hl03, rfl⟩
  case round =>
    obtain ⟨l, rfl, hsl, hll, hl0, rfl⟩ := hrel
    have hls := bs_size l
    cases l with
    | nil => exact absurd rfl hl0
    | cons c r =>
      cases r with
      | nil =>
        have hM : Lib.itoa (m : Int) = [c] := by rw [← hsl]; rfl
        have hMl : [c].length = 1 := rfl
        clear hsl hll hl0 hst
        generalize [c] = M at *
        have hlen1 : ¬ 1 < M.length := by omega
        clear hMl
        have hg1 := (hg.grown hbq).grown ((Below.refl w0.heap.size w0).alloc (Nat.le_refl _) (.cells #[.string ⟨#[110]⟩, .string (bs M)] 46))
        have hbq1 : Below w.heap.size w (w0.alloc (.cells #[.string ⟨#[110]⟩, .string (bs M)] 46)) := hbq.alloc hbq.size _
        have hvm := vmC m hm2
        have hok := vmC_ok m hm2
        have hWC : WC m = ⟨[([110], M)], [], []⟩ := by unfold WC; rw [hM]
        rw [hM] at hvm
        rw [hWC] at hvm hok
        have hWd : WdIs (w0.alloc (.cells #[.string ⟨#[110]⟩, .string (bs M)] 46)).heap.size ⟨[([110], M)], [], []⟩ (.slice (some ⟨w0.heap.size, 0, none⟩) 1 1) (.slice none 0 0) (.slice none 0 0) (w0.alloc (.cells #[.string ⟨#[110]⟩, .string (bs M)] 46)) := by
          refine ⟨⟨by simp, _, _, rfl, fun _ => ⟨w0.heap.size, 0, rfl, by simp, fun j x hx => ?_⟩⟩, ⟨by simp, _, _, rfl, fun h => absurd h (by simp)⟩, ⟨[], SliceIs.nil _ _ _, rfl⟩⟩
          have := new_cells1 (w := w0) (cs := #[.string ⟨#[110]⟩, .string (bs M)]) (e := 46) j x (by simpa [pairCells, bs] using hx)
          rw [add_plain] at this
          rw [Nat.zero_add]
          exact this
        have hRun := vm_Run (p := progC) (by simp [progC]) smC hvm hg1 hWd lenProgC hok
        have hpb : bs progC = ⟨progC.toArray⟩ := rfl
        rw [hpb] at hRun
        unfold progC at hRun
        clear hvm hok hWC hWd hg1 hg
        go_wp2_with (go_at_call 8; refine hRun.mono ?_)
        first | rintro x w2 rfl hb2 | rintro x w2 ⟨cl, rfl, hNd, hb2⟩
        obtain ⟨dA, dc, nA, nc, sA, sc, rfl, hD, _⟩ := hNd.cells
        simp only [Nd.kind, Nd.exec, Nd.data, Nd.names, Nd.nodes, List.length_nil] at hD ⊢
        have hcv := conv_bytes (hD.kept (w' := w2.alloc (.cells #[.int .i64 1, .bool false, .slice dA M.length dc, .slice nA 0 nc, .slice sA 0 sc] 32)) (fun k hk => Below.heap_alloc _ _ _ hk.2))
        have hbf := (hbq1.trans (hb2.mono hbq1.size)).alloc (o := .cells #[.int .i64 1, .bool false, .slice dA M.length dc, .slice nA 0 nc, .slice sA 0 sc] 32) (Nat.le_trans hbq1.size hb2.size)
        clear hNd hD hRun hb2 hbq1
        go_wp2
        go_ret
        exact ⟨rfl, hbf⟩
      | cons d r =>
        by_cases hc : c = 48
        · subst hc
          have h0 : 0 < (bs ((48 : UInt8) :: d :: r)).size := by rw [bs_size]; simp
          have q : (((bs ((48 : UInt8) :: d :: r))[0].toNat : Int) == 48) = true := by
            rw [byte_eq _ 48 48 rfl]
            have : (bs ((48 : UInt8) :: d :: r))[0] = 48 := by simp [bs]; rfl
            rw [this]; rfl
          have hsl2 : stripF (d :: r) = Lib.itoa (m : Int) := by rw [← hsl]; rw [stripF, if_pos rfl]
          have hlen1 : 1 < ((48 : UInt8) :: d :: r).length := by simp
          have htl := bs_tail 48 (d :: r)
          have hsz : (bs ((48 : UInt8) :: d :: r)).size = (d :: r).length + 1 := by rw [bs_size]; rfl
          have hX1 : 1 < (bs ((48 : UInt8) :: d :: r)).size := by rw [hsz]; simp
          have hlr : (d :: r).length ≤ 2 := by simp at hll ⊢; omega
          have hrn : (d :: r) ≠ [] := by simp
          generalize hX : bs ((48 : UInt8) :: d :: r) = X at *
          generalize hY : d :: r = Y at *
          have hYs := bs_size Y
          clear hX hls hsl hst
          go_wp2
          go_roundw
          case rel => exact ⟨Y, by rw [← htl], hsl2, by omega, hrn, trivial⟩
          case measure => simp only [htl]; omega
        · have hM : Lib.itoa (m : Int) = c :: d :: r := by rw [← hsl, stripF, if_neg hc]
          have h0 : 0 < (bs (c :: d :: r)).size := by rw [bs_size]; simp
          have q : (((bs (c :: d :: r))[0].toNat : Int) == 48) = false := by
            rw [byte_eq _ 48 48 rfl]
            have : (bs (c :: d :: r))[0] = c := by simp [bs]; rfl
            rw [this]; simp [hc]
          have hlen1 : 1 < (c :: d :: r).length := by simp
          clear hsl hll hl0 hst hc
          generalize c :: d :: r = M at *
          have hg1 := (hg.grown hbq).grown ((Below.refl w0.heap.size w0).alloc (Nat.le_refl _) (.cells #[.string ⟨#[110]⟩, .string (bs M)] 46))
          have hbq1 : Below w.heap.size w (w0.alloc (.cells #[.string ⟨#[110]⟩, .string (bs M)] 46)) := hbq.alloc hbq.size _
          have hvm := vmC m hm2
          have hok := vmC_ok m hm2
          have hWC : WC m = ⟨[([110], M)], [], []⟩ := by unfold WC; rw [hM]
          rw [hM] at hvm
          rw [hWC] at hvm hok
          have hWd : WdIs (w0.alloc (.cells #[.string ⟨#[110]⟩, .string (bs M)] 46)).heap.size ⟨[([110], M)], [], []⟩ (.slice (some ⟨w0.heap.size, 0, none⟩) 1 1) (.slice none 0 0) (.slice none 0 0) (w0.alloc (.cells #[.string ⟨#[110]⟩, .string (bs M)] 46)) := by
            refine ⟨⟨by simp, _, _, rfl, fun _ => ⟨w0.heap.size, 0, rfl, by simp, fun j x hx => ?_⟩⟩, ⟨by simp, _, _, rfl, fun h => absurd h (by simp)⟩, ⟨[], SliceIs.nil _ _ _, rfl⟩⟩
            have := new_cells1 (w := w0) (cs := #[.string ⟨#[110]⟩, .string (bs M)]) (e := 46) j x (by simpa [pairCells, bs] using hx)
            rw [add_plain] at this
            rw [Nat.zero_add]
            exact this
          have hRun := vm_Run (p := progC) (by simp [progC]) smC hvm hg1 hWd lenProgC hok
          have hpb : bs progC = ⟨progC.toArray⟩ := rfl
          rw [hpb] at hRun
          unfold progC at hRun
          clear hvm hok hWC hWd hg1 hg
          go_wp2_with (go_at_call 8; refine hRun.mono ?_)
          first | rintro x w2 rfl hb2 | rintro x w2 ⟨cl, rfl, hNd, hb2⟩
          obtain ⟨dA, dc, nA, nc, sA, sc, rfl, hD, _⟩ := hNd.cells
          simp only [Nd.kind, Nd.exec, Nd.data, Nd.names, Nd.nodes, List.length_nil] at hD ⊢
          have hcv := conv_bytes (hD.kept (w' := w2.alloc (.cells #[.int .i64 1, .bool false, .slice dA M.length dc, .slice nA 0 nc, .slice sA 0 sc] 32)) (fun k hk => Below.heap_alloc _ _ _ hk.2))
          have hbf := (hbq1.trans (hb2.mono hbq1.size)).alloc (o := .cells #[.int .i64 1, .bool false, .slice dA M.length dc, .slice nA 0 nc, .slice sA 0 sc] 32) (Nat.le_trans hbq1.size hb2.size)
          clear hNd hD hRun hb2 hbq1
          go_wp2
          go_ret
          exact ⟨rfl, hbf⟩
end Go.Proofs.YtejpkjcjoengbaaGreatDoor
