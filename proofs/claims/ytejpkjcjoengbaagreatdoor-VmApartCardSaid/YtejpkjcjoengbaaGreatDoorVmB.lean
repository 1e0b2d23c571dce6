/-
  package vm: put, by walk.
-/
import Derived.Test.YtejpkjcjoengbaaGreatDoorVmA
import Derived.Test.YtejpkjcjoengbaaGreatDoorApp
set_option linter.unusedVariables false
set_option linter.unusedSimpArgs false
namespace Go.Proofs.YtejpkjcjoengbaaGreatDoor
open Go.RowKit

/-- put: the stack then, if each text may be put. -/
def putF (st : List (List UInt8)) : List (List UInt8) → Option (List (List UInt8))
  | [] => some st
  | x :: xs => if x.length > 65536 ∨ 1000 ≤ st.length then none else putF (st ++ [x]) xs

def faultV (n : Int) : Value := .iface 62 (.agg #[.int .i64 n])
def PutPost (B b : Nat) (ev av iv : Value) (most : Int) (sv : Value) (st xs : List (List UInt8)) (ov : Value) (bytes : Int) (lb : List UInt8) (w : World) (e : Ending) (w' : World) : Prop :=
  match putF st xs with
  | some st' => e = .returned .nilIface ∧ ∃ sv', Mac B b ev av iv most sv' st' ov bytes lb w' ∧ Moved b sv sv' w w'
  | none => e = .returned (faultV 42) ∧ ∃ sv', Moved b sv sv' w w'

def PutInv (B b : Nat) (ev av iv : Value) (most : Int) (sv : Value) (st xs : List (List UInt8)) (ov : Value) (bytes : Int) (lb : List UInt8) (w0 : World) (k : Nat) (w : World) : Prop :=
  putF (st ++ xs.take k) (xs.drop k) = putF st xs ∧ ∃ sv', Mac B b ev av iv most sv' (st ++ xs.take k) ov bytes lb w ∧ Moved b sv sv' w0 w

theorem infoStr : (Tryz.prog.info? 9).map (fun i => (i.zero, i.size, i.bytes)) = some (some (.string ⟨#[]⟩), 1, 16) := by kernel_rfl

set_option maxHeartbeats 1000000 in
set_option maxRecDepth 100000 in
theorem vm_put {B b : Nat} {ev av iv : Value} {most : Int} {sv : Value} {ov : Value} {bytes : Int} {lb : List UInt8} {w : World} {st : List (List UInt8)} (xs : List (List UInt8)) (g c : Nat) (h : Mac B b ev av iv most sv st ov bytes lb w)
    (hg : g < w.heap.size) (hgb : g ≠ b) (hgs : sv.ownBlock ≠ some g) (hx : ∀ (j : Nat) x, xs[j]? = some x → w.cell? ⟨g, j, none⟩ = some (.string (bs x))) (hxl : xs.length ≤ 1000) (hst : st.length ≤ 1000) (n : Nat) (hn : n = xs.length) :
    Calls Tryz.prog 34 #[.pointer (some ⟨b, 0, none⟩), .slice (some ⟨g, 0, none⟩) n c] w (PutPost B b ev av iv most sv st xs ov bytes lb w) := by
  subst hn
  obtain ⟨i0, hi, hz0, hz1, hz2⟩ := info_parts infoStr
  have HX := Lib.hid hx
  clear hx
  go_enter Tryz.func34, Tryz.ntmps34
  go_wp2
  go_loopw [9] (fun i wr => ∃ k : Nat, k ≤ xs.length ∧ i = .int .i64 k ∧ PutInv B b ev av iv most sv st xs ov bytes lb w k wr) (fun i wr => xs.length - (intOf i).toNat)
  case atStart => exact ⟨0, Nat.zero_le _, rfl, by simp, sv, by simpa using h, Moved.refl _ _ _⟩
  case round =>
    obtain ⟨k, hk, rfl, hput, sv', hm, hmv⟩ := hrel
    by_cases hlt : k < xs.length
    · have hcell : wr.cell? ⟨g, k, none⟩ = some (.string (bs (xs[k]))) := by
        rw [World.cell?_of_block (hmv.block g hg hgb hgs)]
        exact HX.out k _ (List.getElem?_eq_getElem hlt)
      rw [List.drop_eq_getElem_cons hlt] at hput
      have hlen : (st ++ xs.take k).length = st.length + k := by simp; omega
      have hstk := hm.stk
      rw [hlen] at hstk
      obtain ⟨A, cp, rfl⟩ := own_slice hstk
      have c4 := hm.cell 4
      simp at c4
      have f4 := hm.frozen 4
      have hsn : st ++ xs.take (k + 1) = st ++ xs.take k ++ [xs[k]] := by rw [List.take_succ_eq_append_getElem hlt, ← List.append_assoc]
      generalize hs1 : st ++ xs.take k = s1 at *
      generalize hxk : xs[k] = x at *
      clear hxk hs1
      have HS := Lib.hid hsn
      clear hsn
      have hxs : (bs x).size = x.length := bs_size x
      by_cases hbig : x.length > 65536
      · have hfin : putF st xs = none := by rw [← hput]; simp [putF, hbig]
        have HF := Lib.hid hfin
        have hb1 : 65536 < x.length := hbig
        clear hfin hput
        go_wp2
        go_ret
        unfold PutPost
        rw [HF.out]
        exact ⟨rfl, _, hmv⟩
      · have hb1 : x.length ≤ 65536 := by omega
        by_cases hfull : 1000 ≤ st.length + k
        · have hfin : putF st xs = none := by rw [← hput]; simp [putF, hlen, hfull]
          have HF := Lib.hid hfin
          clear hfin hput
          have HL := Lib.hid hlen
          have hb2 : 1000 ≤ s1.length := by omega
          clear hlen
          go_wp2
          go_ret
          unfold PutPost
          rw [HF.out]
          exact ⟨rfl, _, hmv⟩
        · have hfin : putF (s1 ++ [x]) (xs.drop (k + 1)) = putF st xs := by rw [← hput]; simp [putF, hlen, hfull, hbig]
          have HF := Lib.hid hfin
          clear hfin hput
          have HL := Lib.hid hlen
          have hb2 : s1.length < 1000 := by omega
          have hzb := hmv.size
          have hBw : B ≤ wr.heap.size := Nat.le_trans hm.base (Nat.le_of_lt hm.lt)
          clear hlen
          go_wp2_with (at_builtin; (refine wpList_append_new rfl _ _ 23 rfl B 9 i0 (.string ⟨#[]⟩) 1 16 Tryz.underlying23 hi hz0 hz1 hz2 rfl (by decide) (.slice A (st.length + k) cp) (st.length + k) (strCells s1) rfl (hstk.alloc _) ⟨wr.heap.size, 0, none⟩ 1 1 [.string (bs x)] rfl rfl ?c1 ?c2 (by decide) ?c3 ?c4 ?c5 ?_))
          case c1 => exact fun j u hu => new_cells1 j u hu
          case c2 => intro u hu; simp at hu; subst hu; rfl
          case c3 => unfold maxLen; omega
          case c4 => omega
          case c5 => simp; omega
          intro v' w2 hown' hgrow hfr
          have hm2 := hm.kept ((Below.refl wr.heap.size wr).alloc (Nat.le_refl _) (.cells #[.string (bs x)] 9))
          have hb2' : w2.heap[b]? = some (.cells #[ev, av, iv, .int .i64 most, .slice A (st.length + k) cp, ov, .int .i64 bytes, .string (bs lb)] 56 (0, 0)) := by
            rw [hgrow.block b hm2.lt (fun e => hm.ne e.symm)]; exact hm2.blk
          have d4 := Lib.cell_of_heap hb2' 4
          simp at d4
          have e4 := Lib.frozen_of_heap hb2' 4
          have hlen2 : (s1 ++ [x]).length = st.length + k + 1 := by simp [HL.out]
          have hfin2 : PutInv B b ev av iv most sv st xs ov bytes lb w (k + 1) (w2.setCell ⟨b, 4, none⟩ v') := by
            refine ⟨by rw [HS.out]; exact HF.out, v', by rw [HS.out]; exact Mac.put hb2' hm.base (by rw [hlen2]; simpa [strCells] using hown'), hmv.trans ⟨hgrow.os, hgrow.tape, hgrow.output, ?_, fun j hj hjb hjs => ?_, fun j hj => ?_⟩⟩
            · have := hgrow.size; simp [World.setCell] at *; omega
            · rw [Below.heap_setCell _ _ _ _ hjb, hgrow.block j (by simp; omega) (fun e => hjs e.symm), Below.heap_alloc _ _ _ hj]
            · rcases hfr j hj with h1 | h1
              · exact .inl h1
              · exact .inr (by omega)
          have HF2 := Lib.hid hfin2
          have hsl : ∃ ao n' cap, v' = .slice ao n' cap := by
            rcases hown'.2 with ⟨hv, _⟩ | ⟨g, cap, cur, hv, _⟩
            · exact ⟨_, _, _, hv⟩
            · exact ⟨_, _, _, hv⟩
          obtain ⟨ao, n', cap, rfl⟩ := hsl
          clear hfin2 hlen2 hgrow hown' hm2 hfr
          go_wp2
          go_roundw
          case rel => exact ⟨k + 1, by omega, by go_num, HF2.out⟩
          case measure => simp [intOf]; omega
    · have hfin : putF st xs = some (st ++ xs) := by
        rw [← hput, List.drop_eq_nil_of_le (by omega), List.take_of_length_le (by omega)]; rfl
      have HF := Lib.hid hfin
      rw [List.take_of_length_le (by omega)] at hm
      clear hfin hput
      go_wp2
      go_ret
      unfold PutPost
      rw [HF.out]
      exact ⟨rfl, _, hm, hmv⟩
end Go.Proofs.YtejpkjcjoengbaaGreatDoor
