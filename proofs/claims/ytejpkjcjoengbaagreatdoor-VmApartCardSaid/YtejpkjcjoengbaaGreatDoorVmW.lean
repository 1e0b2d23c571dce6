/-
  machine.read and machine.list, by walk.
-/
import Derived.Test.YtejpkjcjoengbaaGreatDoorVmV
import Derived.Test.YtejpkjcjoengbaaGreatDoorLexD
set_option linter.unusedVariables false
set_option linter.unusedSimpArgs false
namespace Go.Proofs.YtejpkjcjoengbaaGreatDoor
open Go.RowKit

section
variable {B b : Nat} {ev av iv : Value} {most : Int} {sv : Value} {ov : Value} {bytes : Int} {lb : List UInt8} {w : World} {st : List (List UInt8)}

/-- The node that is found, with its cells written out. -/
theorem input_none {F : Nat → Prop} {w w' : World} {e : Ending} (h : WalkPost F none w e w') :
    Below w.heap.size w w' ∧ e = .returned (.tuple #[.agg #[.int .i64 0, .bool false, .slice none 0 0, .slice none 0 0, .slice none 0 0], .bool false]) := by
  obtain ⟨cl, h1, h2, h3⟩ := h
  subst h3
  exact ⟨h2, h1⟩
theorem input_some {F : Nat → Prop} {m : Nd} {w w' : World} {e : Ending} (h : WalkPost F (some m) w e w') :
    Below w.heap.size w w' ∧ ∃ dA dc nA nc sA sc, e = .returned (.tuple #[.agg #[.int .i64 m.kind, .bool m.exec, .slice dA m.data.length dc, .slice nA m.names.length nc, .slice sA m.nodes.length sc], .bool true]) ∧ SliceIs F 1 (.slice dA m.data.length dc) m.data.length (byteCells m.data) w ∧ SliceIs F 1 (.slice nA m.names.length nc) m.names.length (strCells m.names) w := by
  obtain ⟨cl, h1, h2, h3⟩ := h
  obtain ⟨dA, dc, nA, nc, sA, sc, h4, h5, h6, _⟩ := NdIs.cells h3
  subst h4
  exact ⟨h2, dA, dc, nA, nc, sA, sc, h1, h5, h6⟩

set_option maxHeartbeats 2000000 in
set_option maxRecDepth 100000 in
theorem vm_read_op {ins : List (List UInt8 × Nd)} {cs : List Value} (hg : Glob w) (h : Mac B b ev av iv most sv st ov bytes lb w) (hB : Tryz.prog.globals.size ≤ B) (hst : st.length ≤ 1000) (hbig : ∀ x ∈ st, x.length ≤ 1000000)
    (hS : SliceIs (fun k => k < B) 6 iv ins.length cs w) (hI : InsIs (fun k => k < B) w ins cs) (hpl : ∀ x ∈ ins, x.1.length ≤ 281474976710656) (s : ByteArray) :
    Calls Tryz.prog 40 #[.pointer (some ⟨b, 0, none⟩), .string s] w (OpPost (readR ins st) B b ev av iv most sv ov bytes lb w) := by
  rcases top1_cases st with ⟨h1, rfl⟩ | ⟨s1, x, rfl⟩
  · go_enter Tryz.func40, Tryz.ntmps40
    go_wp2_with (go_at_call 77; refine (vm_take_few h 1 (by simp) (by decide)).mono ?_; rintro e w1 ⟨rfl, rfl⟩)
    go_ret
    exact ⟨rfl, _, Moved.refl _ _ _⟩
  · have hr : readR ins (s1 ++ [x]) = match inputF ins x with | some n => if n.kind = 1 ∨ n.kind = 3 then putR s1 [n.data] else .error 44 | none => .error 44 := by
      unfold readR
      rw [top1_snoc]
      rfl
    have HR := Lib.hid hr
    generalize readR ins (s1 ++ [x]) = res at *
    clear hr
    have hx := hbig x (by simp)
    go_enter Tryz.func40, Tryz.ntmps40
    go_wp2_with (go_at_call 77; refine (vm_take s1 [x] h (by simp) hst 1 rfl).mono ?_)
    rintro e w1 ⟨g0, c0', sv', rfl, ⟨hg0, hg1, hg2, hg3⟩, hc, hm, hmv⟩
    have c0 := hc 0 x rfl
    have hs1 : s1.length ≤ 1000 := by simp at hst; omega
    have hbB := hmv.below h.base (fun k hk => (h.stk.lt k hk).1) (by have := h.lt; have := h.base; omega)
    have hBw : B ≤ w1.heap.size := Nat.le_trans hm.base (Nat.le_of_lt hm.lt)
    have hgl : Glob w1 := hg.below hbB hB
    have e2 := hm.cell 2
    simp at e2
    have hIn := vm_input hBw hgl e2 (hS.kept (fun k hk => hbB.block k hk)) (hI.kept (fun k hk => hbB.block k hk)) hpl x hx
    clear hc hS hI
    cases hin : inputF ins x with
    | none =>
      rw [hin] at hIn
      have hres : res = .error 44 := by rw [HR.out, hin]
      subst hres
      have hIn2 := hIn.mono (fun e w' h => input_none h)
      clear hIn HR
      go_wp2_with (go_at_call 79; refine hIn2.mono ?_)
      first | rintro e w2 hb2 rfl | rintro e w2 ⟨hb2, rfl⟩
      go_wp2
      go_ret
      exact ⟨rfl, _, hmv.trans (Moved.of_below (hb2.alloc hb2.size _))⟩
    | some n =>
      rw [hin] at hIn
      have hIn2 := hIn.mono (fun e w' h => input_some h)
      have hres : res = if n.kind = 1 ∨ n.kind = 3 then putR s1 [n.data] else .error 44 := by rw [HR.out, hin]
      have HRES := Lib.hid hres
      clear hIn HR hres
      go_wp2_with (go_at_call 79; refine hIn2.mono ?_)
      first | rintro e w2 hb2 ⟨dA, dc, nA, nc, sA, sc, rfl, hD, hNm⟩ | rintro e w2 ⟨hb2, dA, dc, nA, nc, sA, sc, rfl, hD, hNm⟩
      have hbt : Below w1.heap.size w1 (w2.alloc (.cells #[.int .i64 n.kind, .bool n.exec, .slice dA n.data.length dc, .slice nA n.names.length nc, .slice sA n.nodes.length sc] 32)) := hb2.alloc hb2.size _
      have hcv := conv_bytes (hD.kept (w' := w2.alloc (.cells #[.int .i64 n.kind, .bool n.exec, .slice dA n.data.length dc, .slice nA n.names.length nc, .slice sA n.nodes.length sc] 32)) (fun k hk => hbt.block k (by omega)))
      have hm2 := hm.kept hb2
      have hput := fun c => vm_put_at (w := w2) (W := (w2.alloc (.cells #[.int .i64 n.kind, .bool n.exec, .slice dA n.data.length dc, .slice nA n.names.length nc, .slice sA n.nodes.length sc] 32)).alloc (.cells #[.string (bs n.data)] 9)) [n.data] (w2.heap.size + 1) 1 c hm2 (by simp) hs1 (((Below.refl w2.heap.size w2).alloc (Nat.le_refl _) _).alloc (by simp) _) (by omega) (heap_alloc2_new w2 _ _) rfl
      have hmv2 := hmv.trans (Moved.of_below hb2)
      have hmv3 := hmv.trans (Moved.of_below hbt)
      clear hD hNm hIn2 hbt hin
      generalize hkk : n.kind = kk at *
      generalize n.exec = ee at *
      generalize n.names.length = nn at *
      generalize n.nodes.length = sn at *
      generalize n.data = dat at *
      by_cases hk1 : kk = 1
      · have hres : res = putR s1 [dat] := by rw [HRES.out, if_pos (.inl hk1)]
        subst hres hk1
        go_wp2_with (go_at_call 34; go_loud (refine (hput 1).mono ?_); rintro e w3 ⟨rfl, hq⟩)
        go_ret
        exact ⟨rfl, OpPost.moved hq hmv2⟩
      · have hkq1 : (kk == 1) = false := by simp [hk1]
        by_cases hk3 : kk = 3
        · have hres : res = putR s1 [dat] := by rw [HRES.out, if_pos (.inr hk3)]
          subst hres hk3
          go_wp2_with (go_at_call 34; go_loud (refine (hput 1).mono ?_); rintro e w3 ⟨rfl, hq⟩)
          go_ret
          exact ⟨rfl, OpPost.moved hq hmv2⟩
        · have hkq3 : (kk == 3) = false := by simp [hk3]
          have hres : res = .error 44 := by rw [HRES.out, if_neg (by rintro (h | h); exact hk1 h; exact hk3 h)]
          subst hres
          go_wp2
          go_ret
          exact ⟨rfl, _, hmv3⟩

theorem walkF_ok : ∀ (names : List (List UInt8)) {n m : Nd}, NdOk n → walkF n names = some m → NdOk m
  | [], n, m, h, e => by unfold walkF at e; injection e with e; subst e; exact h
  | s :: r, n, m, h, e => by
    unfold walkF at e
    split at e
    · cases e
    · split at e
      · rename_i k hk
        refine walkF_ok r ?_ e
        obtain ⟨hl, hk2⟩ := List.getElem?_eq_some_iff.1 hk
        cases n with
        | mk k0 e0 d na ns =>
          have := NdsOk.at h.2 _ hl
          rw [← hk2]
          exact this
      · cases e
theorem inputF_ok : ∀ {l : List (List UInt8 × Nd)} {p : List UInt8} {m : Nd}, (∀ x ∈ l, NdOk x.2) → inputF l p = some m → NdOk m
  | [], p, m, h, e => by cases e
  | (q, n) :: r, p, m, h, e => by
    unfold inputF at e
    split at e
    · injection e with e; subst e; exact h _ (List.mem_cons_self ..)
    · split at e
      · exact walkF_ok _ (h _ (List.mem_cons_self ..)) e
      · exact inputF_ok (fun x hx => h x (List.mem_cons_of_mem _ hx)) e
theorem joinN_take (na : List (List UInt8)) (j : Nat) (h : j < na.length) : joinN (na.take (j + 1)) = joinN (na.take j) ++ (na[j] ++ [10]) := by
  unfold joinN
  rw [List.take_succ_eq_append_getElem h, List.flatMap_append]
  simp only [List.flatMap_cons, List.flatMap_nil, List.append_nil]
theorem joinN_len (na : List (List UInt8)) : (joinN na).length ≤ entriesF na := by
  induction na with
  | nil => simp [joinN]
  | cons a l ih => simp [joinN, entriesF] at *; omega
theorem addNl (x : List UInt8) : (bs x ++ ⟨#[10]⟩ : ByteArray) = bs (x ++ [10]) := by
  apply ByteArray.ext
  simp [bs]

set_option maxHeartbeats 2000000 in
set_option maxRecDepth 100000 in
theorem vm_list_op {ins : List (List UInt8 × Nd)} {cs : List Value} (hg : Glob w) (h : Mac B b ev av iv most sv st ov bytes lb w) (hB : Tryz.prog.globals.size ≤ B) (hst : st.length ≤ 1000) (hbig : ∀ x ∈ st, x.length ≤ 1000000)
    (hS : SliceIs (fun k => k < B) 6 iv ins.length cs w) (hI : InsIs (fun k => k < B) w ins cs) (hpl : ∀ x ∈ ins, x.1.length ≤ 281474976710656) (hlo : listOk ins st = true) (s : ByteArray) :
    Calls Tryz.prog 41 #[.pointer (some ⟨b, 0, none⟩), .string s] w (OpPost (listR ins st) B b ev av iv most sv ov bytes lb w) := by
  rcases top1_cases st with ⟨h1, rfl⟩ | ⟨s1, x, rfl⟩
  · go_enter Tryz.func41, Tryz.ntmps41
    go_wp2_with (go_at_call 77; refine (vm_take_few h 1 (by simp) (by decide)).mono ?_; rintro e w1 ⟨rfl, rfl⟩)
    go_ret
    exact ⟨rfl, _, Moved.refl _ _ _⟩
  · have hr : listR ins (s1 ++ [x]) = match inputF ins x with | some n => if n.kind = 2 then putR s1 [joinN n.names] else .error 44 | none => .error 44 := by
      unfold listR
      rw [top1_snoc]
      rfl
    have HR := Lib.hid hr
    generalize listR ins (s1 ++ [x]) = res at *
    clear hr
    have hx := hbig x (by simp)
    go_enter Tryz.func41, Tryz.ntmps41
    go_wp2_with (go_at_call 77; refine (vm_take s1 [x] h (by simp) hst 1 rfl).mono ?_)
    rintro e w1 ⟨g0, c0', sv', rfl, ⟨hg0, hg1, hg2, hg3⟩, hc, hm, hmv⟩
    have c0 := hc 0 x rfl
    have hs1 : s1.length ≤ 1000 := by simp at hst; omega
    have hbB := hmv.below h.base (fun k hk => (h.stk.lt k hk).1) (by have := h.lt; have := h.base; omega)
    have hBw : B ≤ w1.heap.size := Nat.le_trans hm.base (Nat.le_of_lt hm.lt)
    have hgl : Glob w1 := hg.below hbB hB
    have e2 := hm.cell 2
    simp at e2
    have hIn := vm_input hBw hgl e2 (hS.kept (fun k hk => hbB.block k hk)) (hI.kept (fun k hk => hbB.block k hk)) hpl x hx
    have hok : ∀ m, inputF ins x = some m → entriesF m.names ≤ 1000000000000 := fun m hm => by
      unfold listOk at hlo
      rw [top1_snoc] at hlo
      simp only [hm] at hlo
      exact of_decide_eq_true hlo
    clear hlo
    clear hc hS hI
    cases hin : inputF ins x with
    | none =>
      rw [hin] at hIn
      have hres : res = .error 44 := by rw [HR.out, hin]
      subst hres
      have hIn2 := hIn.mono (fun e w' h => input_none h)
      clear hIn HR
      go_wp2_with (go_at_call 79; refine hIn2.mono ?_)
      first | rintro e w2 hb2 rfl | rintro e w2 ⟨hb2, rfl⟩
      go_wp2
      go_ret
      exact ⟨rfl, _, hmv.trans (Moved.of_below (hb2.alloc hb2.size _))⟩
    | some n =>
      rw [hin] at hIn
      have hIn2 := hIn.mono (fun e w' h => input_some h)
      have hent := hok n hin
      have hres : res = if n.kind = 2 then putR s1 [joinN n.names] else .error 44 := by rw [HR.out, hin]
      have HRES := Lib.hid hres
      clear hIn HR hres hok hpl
      go_wp2_with (go_at_call 79; refine hIn2.mono ?_)
      first | rintro e w2 hb2 ⟨dA, dc, nA, nc, sA, sc, rfl, hD, hNm⟩ | rintro e w2 ⟨hb2, dA, dc, nA, nc, sA, sc, rfl, hD, hNm⟩
      have hm2 := hm.kept hb2
      have hmv2 := hmv.trans (Moved.of_below hb2)
      have hNm2 := hNm.kept (w' := w2) (fun k hk => hb2.block k (by omega))
      clear hD hNm hIn2 hin
      by_cases hk2 : n.kind = 2
      · have hres : res = putR s1 [joinN n.names] := by rw [HRES.out, if_pos hk2]
        subst hres
        generalize n.kind = kk at *
        subst hk2
        generalize n.exec = ee at *
        generalize n.data.length = dn at *
        generalize n.nodes.length = sn at *
        generalize n.names = na at *
        have hnl := hNm2.1
        unfold maxLen at hnl
        have hb0 : Below w2.heap.size w2 (w2.alloc (.cells #[.int .i64 2, .bool ee, .slice dA dn dc, .slice nA na.length nc, .slice sA sn sc] 32)) := (Below.refl _ _).alloc (Nat.le_refl _) _
        go_wp2
        go_loopw [40] (fun i wr => ∃ j : Nat, j ≤ na.length ∧ i = .int .i64 j ∧ Lib.IsBuilder 147 5 (w2.heap.size + 1) (w2.heap.size + 1) (Lib.byteCells (joinN (na.take j))) wr ∧ Below w2.heap.size w2 wr ∧ w2.heap.size + 1 ≤ wr.heap.size) (fun i wr => na.length - (intOf i).toNat)
        case atStart => exact ⟨0, Nat.zero_le _, rfl, .inl ⟨Nat.le_refl _, .slice none 0 0, heap_alloc2_new w2 _ _, ⟨rfl, .inl ⟨rfl, rfl⟩⟩, by simp [Value.ownBlock]⟩, hb0.alloc (by simp) _, by simp⟩
        case round =>
          obtain ⟨j, hj, rfl, hbd, hbr, hsr⟩ := hrel
          by_cases hlt : j < na.length
          · obtain ⟨_, A', c', hv, hA⟩ := hNm2
            injection hv with hv1 hv2 hv3
            subst hv1 hv3
            clear hv2
            obtain ⟨g, o, rfl, hFg, hcl, hcs⟩ := hA (by omega)
            have hgw : g < w2.heap.size := by have := hb2.size; omega
            have n0 : wr.cell? ⟨g, o + j, none⟩ = some (.string (bs na[j])) := (hbr.cell (p := ⟨g, o + j, none⟩) hgw).trans (hcs _ _ (strCells_at na j hlt))
            have hjt := joinN_take na j hlt
            have hxl := entriesF_at na j hlt
            have hll : (joinN (na.take j)).length + (na[j].length + 1) ≤ 1000000000000 := by
              have h1 := joinN_len (na.take (j + 1))
              have h2 := entriesF_le na (j + 1)
              rw [hjt] at h1
              simp at h1
              omega
            generalize na[j] = y at *
            have hysz := bs_size y
            have hws := writeString (w2.heap.size + 1) (w2.heap.size + 1) _ (bs y ++ ⟨#[10]⟩) wr hbd (by rw [addNl, bs_size, Lib.byteCells_length]; simp; omega) hsr
            have HJ := Lib.hid hjt
            clear hjt hcs hcl hA hll hbd
            go_wp2_with (go_at_call 80; refine hws.mono ?_)
            first | rintro e w4 rfl hbd2 hb4 | rintro e w4 ⟨rfl, hbd2, hb4⟩
            have hbd3 : Lib.IsBuilder 147 5 (w2.heap.size + 1) (w2.heap.size + 1) (Lib.byteCells (joinN (na.take (j + 1)))) w4 := by
              rw [HJ.out]
              have : Lib.byteCells (joinN (na.take j) ++ (y ++ [10])) = Lib.byteCells (joinN (na.take j)) ++ Lib.strCells (bs y ++ ⟨#[10]⟩) := by
                rw [addNl]
                simp [Lib.byteCells, Lib.strCells, bs]
              rw [this]
              exact .inr hbd2
            have hbr2 := hbr.trans (hb4.mono (Nat.le_succ _))
            have hsr2 := Nat.le_trans hsr hb4.size
            clear hbd2
            go_wp2
            go_roundw
            case rel => exact ⟨j + 1, by omega, by go_num, hbd3, hbr2, hsr2⟩
            case measure => simp [intOf]; omega
          · have hte : na.take j = na := List.take_of_length_le (by omega)
            rw [hte] at hbd
            have hst := Tryz.Builder_String_any (w2.heap.size + 1) (w2.heap.size + 1) (joinN na) wr hbd hsr
            have hbj : (⟨(joinN na).toArray⟩ : ByteArray) = bs (joinN na) := rfl
            rw [hbj] at hst
            clear hbd hNm2 hte hb0
            go_wp2_with (go_at_call 81; refine hst.mono ?_)
            first | rintro e w4 rfl hb4 | rintro e w4 ⟨rfl, hb4⟩
            have hb24 := hbr.trans (hb4.mono (Nat.le_succ _))
            have hput := vm_put_at (w := w2) (W := w4.alloc (.cells #[.string (bs (joinN na))] 9)) [joinN na] w4.heap.size 1 1 hm2 (by simp) hs1 (hb24.alloc hb24.size _) hb24.size (heap_alloc_new w4 _) rfl
            go_wp2_with (go_at_call 34; go_loud (refine hput.mono ?_); rintro e w3 ⟨rfl, hq⟩)
            go_ret
            exact ⟨rfl, OpPost.moved hq hmv2⟩
      · have hres : res = .error 44 := by rw [HRES.out, if_neg hk2]
        have hkq : (n.kind == 2) = false := by simp [hk2]
        subst hres
        have hmv3 := hmv.trans (Moved.of_below (hb2.alloc (o := .cells #[.int .i64 n.kind, .bool n.exec, .slice dA n.data.length dc, .slice nA n.names.length nc, .slice sA n.nodes.length sc] 32) hb2.size))
        clear hNm2 HRES
        generalize n.kind = kk at *
        go_wp2
        go_ret
        exact ⟨rfl, _, hmv3⟩
end
end Go.Proofs.YtejpkjcjoengbaaGreatDoor
