/-
  package vm: numbers, and the operations that make one text of two, by walk.
-/
import Derived.Test.YtejpkjcjoengbaaGreatDoorVmD
import Derived.Lib.SmallJoins
import Derived.Lib.AppendIntMem
import Derived.Lib.AtoiBound
import Derived.Lib.AtoiTie
import Derived.Lib.ItoaLen
import Derived.MapKept
set_option linter.unusedVariables false
set_option linter.unusedSimpArgs false
namespace Go.Proofs.YtejpkjcjoengbaaGreatDoor
open Go.RowKit

def numF (l : List UInt8) : Int := match Lib.atoiAll l with
  | .ok v => if Lib.itoa v = l ∧ (Lib.trimPrefix l [45]).length ≤ 15 then v else 0
  | _ => 0

theorem trim_len (l : List UInt8) : l.length ≤ (Lib.trimPrefix l [45]).length + 1 := by
  cases l with
  | nil => simp
  | cons a t =>
    unfold Lib.trimPrefix
    split <;> simp

theorem numF_bound (l : List UInt8) : -1000000000000000000 < numF l ∧ numF l < 1000000000000000000 := by
  unfold numF
  cases h : Lib.atoiAll l with
  | ok v =>
    dsimp only
    split
    · rename_i hc
      have hl := trim_len l
      have hs : l.length ≤ 18 := by omega
      rw [Lib.atoiAll_short l hs] at h
      cases ha : Lib.atoi l with
      | none => rw [ha] at h; cases h
      | some n =>
        rw [ha] at h
        injection h with h1
        subst h1
        exact Lib.atoi_bound ha hs
    · omega
  | _ => dsimp only; omega

theorem itoa_call (n : Int) (h0 : -9223372036854775808 ≤ n) (h1 : n ≤ 9223372036854775807) {w : World} (hg : Glob w) :
    Calls Tryz.prog 84 #[.int .i64 n] w fun e w' => e = .returned (.string (bs (Lib.itoa n))) ∧ Below w.heap.size w w' :=
  (Tryz.strconv_Itoa n h0 h1 w hg.pow10).mono fun e w' ⟨he, k, os, hw⟩ => ⟨he, by subst hw; exact Lib.below_grow _ w (Nat.le_refl _) k os⟩

theorem atoi_call (l : List UInt8) (hl : l.length ≤ 1000000) {w : World} (hg : Glob w) :
    Calls Tryz.prog 114 #[.string (bs l)] w fun e w' => Below w.heap.size w w' ∧ ((∃ v, Lib.atoiAll l = .ok v ∧ e = .returned (.tuple #[.int .i64 v, .nilIface])) ∨ ((∀ v, Lib.atoiAll l ≠ .ok v) ∧ ∃ v N, e = .returned (.tuple #[.int .i64 v, .iface 231 (.pointer (some ⟨N, 0, none⟩))]))) := by
  have hsz : (bs l).size = l.length := bs_size l
  rcases h : Lib.atoiAll l with v | _ | _
  · refine (Tryz.strconv_Atoi_ok (bs l) (by omega) v (by simpa using h) w).mono ?_
    rintro e w' ⟨rfl, h2⟩
    refine ⟨?_, .inl ⟨v, rfl, rfl⟩⟩
    rcases h2 with rfl | ⟨t, rfl⟩
    · exact Below.refl _ _
    · exact Go.Joins.below_bytesWorld _ _ _ _ (Nat.le_refl _)
  · obtain ⟨tp, p, hv⟩ := hg.esyn
    refine (Any.strconv_Atoi_syntax_var Tryz.laysC172 (bs l) (by omega) (by simpa using h) tp p w hv).mono ?_
    rintro e w' ⟨N, rfl, _, _, hb⟩
    exact ⟨hb, .inr ⟨(by intro v hv; cases hv), _, N, rfl⟩⟩
  · obtain ⟨tp, p, hv⟩ := hg.eran
    refine (Tryz.strconv_Atoi_range_var (bs l) (by omega) (by simpa using h) tp p w hv).mono ?_
    rintro e w' ⟨N, rfl, _, _, hb⟩
    exact ⟨hb, .inr ⟨(by intro v hv; cases hv), _, N, rfl⟩⟩

theorem bs_ne {a b : List UInt8} (h : a ≠ b) : (bs a == bs b) = false := by
  cases hh : (bs a == bs b) with
  | false => rfl
  | true => exact absurd (by simpa [bs] using (congrArg (fun x : ByteArray => x.data.toList) ((Go.MapKept.bytes_beq _ _).1 hh))) h
set_option maxHeartbeats 1000000 in
theorem vm_number (l : List UInt8) (hl : l.length ≤ 1000000) {w : World} (hg : Glob w) :
    Calls Tryz.prog 78 #[.string (bs l)] w fun e w' => e = .returned (.int .i64 (numF l)) ∧ Below w.heap.size w w' := by
  go_enter Tryz.func78, Tryz.ntmps78
  go_wp2_with (go_at_call 114; refine (atoi_call l hl hg).mono ?_)
  rintro e w1 ⟨hb, ⟨v, hv, rfl⟩ | ⟨hno, v, N, rfl⟩⟩
  · have hbd := Lib.atoiAll_bounds hv
    go_wp2_with (go_at_call 84; refine (itoa_call v hbd.1 hbd.2 (hg.grown hb)).mono ?_)
    rintro e w2 ⟨rfl, hb2⟩
    by_cases h1 : Lib.itoa v = l
    · rw [h1]
      go_wp2_with (go_at_call 115; refine (Tryz.strings_TrimPrefix (bs l) (bs [45]) _).mono ?_; rintro e w3 ⟨rfl, rfl⟩)
      all_goals go_ret
      all_goals refine ⟨?_, hb.trans (hb2.mono hb.size)⟩
      · rename_i hc
        rw [show numF l = 0 by unfold numF; rw [hv]; dsimp only; rw [if_neg (by omega)]]
        rfl
      · rename_i hc
        rw [show numF l = v by unfold numF; rw [hv]; dsimp only; rw [if_pos ⟨h1, by omega⟩]]
        rfl
    · have hne : (bs (Lib.itoa v) == bs l) = false := bs_ne h1
      go_wp2
      go_ret
      refine ⟨?_, hb.trans (hb2.mono hb.size)⟩
      rw [show numF l = 0 by unfold numF; rw [hv]; dsimp only; rw [if_neg (by simp [h1])]]
      rfl
  · go_wp2
    go_ret
    refine ⟨?_, hb⟩
    have : numF l = 0 := by
      unfold numF
      cases h : Lib.atoiAll l with
      | ok v => exact absurd h (hno v)
      | _ => rfl
    rw [this]
    rfl

section
variable {B b : Nat} {ev av iv : Value} {most : Int} {sv : Value} {ov : Value} {bytes : Int} {lb : List UInt8} {w : World} {st : List (List UInt8)}

def lengthR (st : List (List UInt8)) : ORes := match top1 st with | none => .error 40 | some (s, x) => putR s [Lib.itoa (x.length : Int)]

set_option maxHeartbeats 1000000 in
set_option maxRecDepth 100000 in
theorem vm_length (hg : Glob w) (h : Mac B b ev av iv most sv st ov bytes lb w) (hB : Tryz.prog.globals.size ≤ B) (hst : st.length ≤ 1000) (hbig : ∀ x ∈ st, x.length ≤ 1000000) (s : ByteArray) :
    Calls Tryz.prog 46 #[.pointer (some ⟨b, 0, none⟩), .string s] w (OpPost (lengthR st) B b ev av iv most sv ov bytes lb w) := by
  rcases top1_cases st with ⟨h1, rfl⟩ | ⟨s1, x, rfl⟩
  · go_enter Tryz.func46, Tryz.ntmps46
    go_wp2_with (go_at_call 77; refine (vm_take_few h 1 (by simp) (by decide)).mono ?_; rintro e w1 ⟨rfl, rfl⟩)
    go_ret
    exact ⟨rfl, _, Moved.refl _ _ _⟩
  · have hr : lengthR (s1 ++ [x]) = putR s1 [Lib.itoa (x.length : Int)] := by simp [lengthR, top1_snoc]
    rw [hr]
    have hx := hbig x (by simp)
    go_enter Tryz.func46, Tryz.ntmps46
    go_wp2_with (go_at_call 77; refine (vm_take s1 [x] h (by simp) hst 1 rfl).mono ?_)
    rintro e w1 ⟨g, c, sv', rfl, ⟨hg0, hg1, hg2, hg3⟩, hc, hm, hmv⟩
    have c0 := hc 0 _ rfl
    have hs1 : s1.length ≤ 1000 := by simp at hst; omega
    have hgl : Glob w1 := hg.below (hmv.below h.base (fun k hk => (h.stk.lt k hk).1) (by have := h.lt; have := h.base; omega)) hB
    go_wp2_with (first | (go_at_call 84; go_loud (refine (itoa_call (x.length : Int) (by omega) (by omega) hgl).mono ?_); rintro e w2 ⟨rfl, hb2⟩) | (go_at_call 34; go_loud (refine (vm_put_new (w := w2) [Lib.itoa (x.length : Int)] 1 1 (hm.kept hb2) (by simp) hs1 (((Below.refl _ _).alloc (Nat.le_refl _) _)) (heap_alloc_new w2 _) rfl).mono ?_); rintro e w3 ⟨rfl, hq⟩))
    go_ret
    exact ⟨rfl, OpPost.moved hq (hmv.trans (Moved.of_below hb2))⟩
end
end Go.Proofs.YtejpkjcjoengbaaGreatDoor
