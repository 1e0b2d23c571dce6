/-
  vm.read, by walk.
-/
import Derived.Test.YtejpkjcjoengbaaGreatDoorVmN
import Derived.Test.YtejpkjcjoengbaaGreatDoorLab
set_option linter.unusedVariables false
set_option linter.unusedSimpArgs false
namespace Go.Proofs.YtejpkjcjoengbaaGreatDoor
open Go.RowKit Go.Maps

def lineCells (l : List PLine) : List Value := l.flatMap fun x => [.int .i64 x.at_, .string (bs x.word), .string (bs x.text)]
theorem lineCells_snoc (l : List PLine) (x : PLine) : lineCells (l ++ [x]) = lineCells l ++ [.int .i64 x.at_, .string (bs x.word), .string (bs x.text)] := by simp [lineCells]
theorem lineCells_length (l : List PLine) : (lineCells l).length = l.length * 3 := by
  induction l with
  | nil => rfl
  | cons a l ih => simp [lineCells] at *; omega
theorem lineCells_at : ∀ (l : List PLine) (k : Nat) (h : k < l.length), (lineCells l)[k * 3]? = some (.int .i64 l[k].at_) ∧ (lineCells l)[k * 3 + 1]? = some (.string (bs l[k].word)) ∧ (lineCells l)[k * 3 + 2]? = some (.string (bs l[k].text))
  | [], k, h => by simp at h
  | x :: l, 0, h => by simp [lineCells]
  | x :: l, k + 1, h => by
    have := lineCells_at l k (by simpa using h)
    simpa [lineCells, Nat.add_mul] using this

/-- The texts of what is read are not longer than the lines. -/
theorem oneF_len {l : List UInt8} {x : Ln} {ok : Bool} (h : oneF l = some (x, ok)) : x.text.length ≤ l.length ∧ x.word.length ≤ l.length + 5 := by
  have ht := trimB_len l 32
  have hc := cut_len (Lib.trimB l 32)
  have hrl : (restF l).length ≤ l.length := by
    have := trimLeftB_len (Lib.cut (Lib.trimB l 32) [32]).2.1 32
    show (Lib.trimLeftB (Lib.cut (Lib.trimB l 32) [32]).2.1 32).length ≤ l.length
    omega
  have hwl : (wordF l).length ≤ l.length := by show (Lib.cut (Lib.trimB l 32) [32]).1.length ≤ l.length; omega
  unfold oneF at h
  split at h
  · injection h with h; injection h with h1 h2; subst h1; simp
  split at h
  · split at h
    · split at h
      · rename_i t _ hc
        injection h with h; injection h with h1 h2; subst h1
        have h3 := congrArg List.length hc.2.2
        simp [quoted] at h3
        refine ⟨?_, ?_⟩
        · show t.text.length ≤ l.length; omega
        · show wPush.length ≤ l.length + 5; simp [wPush]
      · cases h
    · cases h
  split at h
  · injection h with h; injection h with h1 h2; subst h1; exact ⟨hrl, by show (wordF l).length ≤ l.length + 5; omega⟩
  split at h
  · injection h with h; injection h with h1 h2; subst h1; exact ⟨by simp, by show (wordF l).length ≤ l.length + 5; omega⟩
  · cases h

/-- The labels' map: 1 where a label has been seen. -/
def labsF (labs : List (List UInt8)) : List UInt8 → Int := fun x => if x ∈ labs then 1 else 0
def ReadInv (M k : Nat) (ls : List (List UInt8)) (o : Value) (w0 w : World) : Prop :=
  ∃ acc labs, readGo ls 0 [] [] = readGo (ls.drop k) k acc labs ∧ w.ownsRow M 71 3 o acc.length (lineCells acc) ∧ acc.length ≤ k ∧ LabM M k (labsF labs) w ∧ Below M w0 w ∧ o.ownBlock ≠ some M ∧ ∀ x ∈ acc, x.text.length ≤ 60000
def CheckInv (M k : Nat) (acc : List PLine) (labs : List (List UInt8)) (o : Value) (w0 w : World) : Prop :=
  checkGo acc labs = checkGo (acc.drop k) labs ∧ Below w0.heap.size w0 w

theorem labsF_cons (x : List UInt8) (labs : List (List UInt8)) (h : x ∉ labs) : (fun y => if y = x then 1 else labsF labs y) = labsF (x :: labs) := by
  funext y
  by_cases hy : y = x
  · simp [labsF, hy]
  · simp [labsF, hy]

theorem infoLine : (Tryz.prog.info? 71).map (fun i => (i.zero, i.size, i.bytes)) = some (some (.agg #[.int .i64 0, .string ⟨#[]⟩, .string ⟨#[]⟩]), 3, 40) := by kernel_rfl

set_option maxHeartbeats 1000000 in
set_option maxRecDepth 100000 in
theorem vm_read (s : ByteArray) (hs : s.size ≤ 60000) (r : ReadOut) (hr : readF ((Lib.splitB ⟨#[10]⟩ 0 (Lib.countB s ⟨#[10]⟩) s).map (·.data.toList)) = some r) (hsm : ∀ l ∈ (Lib.splitB ⟨#[10]⟩ 0 (Lib.countB s ⟨#[10]⟩) s).map (·.data.toList), l.length ≤ 60000) {w : World} (hg : Glob w) :
    Calls Tryz.prog 12 #[.string s] w fun e w' => ∃ v, e = .returned (.tuple #[v, .int .i64 r.at_, .int .i64 r.err]) ∧ w'.ownsRow w.heap.size 71 3 v r.lines.length (lineCells r.lines) ∧ Below w.heap.size w w' := by
  obtain ⟨m, hm⟩ := hg.maxl
  obtain ⟨i0, hi, hz0, hz1, hz2⟩ := info_parts infoLine
  go_enter Tryz.func12, Tryz.ntmps12
  go_wp2_with (go_at_call 17; refine (Tryz.strings_Split s ⟨#[10]⟩ m w (by omega) hm (by decide)).mono ?_)
  rintro e w1 ⟨rfl, rfl⟩
  have hlen := Lib.splitB_all ⟨#[10]⟩ (by decide) 0 (Lib.countB s ⟨#[10]⟩) s rfl
  generalize hL : Lib.splitB ⟨#[10]⟩ 0 (Lib.countB s ⟨#[10]⟩) s = L at *
  generalize Lib.countB s ⟨#[10]⟩ = nl at *
  generalize hls : L.map (·.data.toList) = ls at hr hsm
  by_cases hbig : nl + 1 > 4096
  · have hrr : r = ⟨[], 0, 3⟩ := by
      unfold readF at hr
      rw [if_pos (by rw [← hls, List.length_map]; omega)] at hr
      injection hr with hr
      exact hr.symm
    subst hrr
    go_wp2
    go_ret3
    exact ⟨_, rfl, ⟨by simp [lineCells], .inl ⟨rfl, rfl⟩⟩, (Below.refl w.heap.size w).alloc (Nat.le_refl _) _⟩
  · have hmm := @run_makeMap Tryz.prog
    have hl4 : ls.length ≤ 4096 := by rw [← hls, List.length_map]; omega
    go_wp2
    go_loopw [6, 22] (fun o i wr => ∃ k : Nat, k ≤ ls.length ∧ i = .int .i64 k ∧ ReadInv (w.heap.size + 1) k ls o (w.alloc (.cells (L.map Value.string).toArray 9)) wr) (fun o i wr => ls.length - (intOf i).toNat)
    case atStart =>
      refine ⟨0, Nat.zero_le _, rfl, [], [], rfl, ⟨by simp [lineCells], .inl ⟨rfl, rfl⟩⟩, Nat.le_refl _, ?_, (Below.refl _ _).alloc (by simp) _, by simp [Value.ownBlock], by simp⟩
      have := LabM.made (w.alloc (.cells (L.map Value.string).toArray 9))
      have h2 : (fun _ => 0 : List UInt8 → Int) = labsF [] := by funext x; simp [labsF]
      rw [← h2]
      simpa using this
    case round =>
      obtain ⟨k, hk, rfl, acc, labs, hgo, hown, hak, hlab, hbl, hno, htx⟩ := hrel
      by_cases hlt : k < ls.length
      · have hrow : wr.heap[w.heap.size]? = some (.cells (L.map Value.string).toArray 9 (0, 0)) := (hbl.block w.heap.size (by omega)).trans (heap_alloc_new w _)
        have hkL : k < L.length := by rw [← hls, List.length_map] at hlt; exact hlt
        have hc : wr.cell? ⟨w.heap.size, k, none⟩ = some (.string (bs ls[k])) := by
          rw [cell_of_row _ _ _ _ _ _ hrow]
          subst hls
          simp [hkL, bs]
        rw [List.drop_eq_getElem_cons hlt] at hgo
        have hb2 : Below w.heap.size w wr := ((Below.refl w.heap.size w).alloc (Nat.le_refl _) _).trans (hbl.mono (by omega))
        have hgr := hg.grown hb2
        have hsz0 : w.heap.size + 1 ≤ wr.heap.size := by have := hbl.size; simpa using this
        obtain ⟨x, ok, hone⟩ : ∃ x ok, oneF ls[k] = some (x, ok) := by
          cases ho : oneF ls[k] with
          | some p => exact ⟨p.1, p.2, rfl⟩
          | none =>
            exfalso
            unfold readF at hr
            rw [if_neg (by rw [← hls, List.length_map]; omega), hgo] at hr
            simp [readGo, ho] at hr
        have hlk : ls[k].length ≤ 60000 := hsm _ (List.getElem_mem hlt)
        have hO := vm_one ls[k] hlk x ok hone hgr
        have hxl := (oneF_len hone).1
        have hxm : x.text.length ≤ maxLen := by unfold maxLen; omega
        go_wp2_with (go_at_call 18; refine hO.mono ?_)
        rintro e w2 ⟨rfl, hb3⟩
        have hgo2 : readGo ls 0 [] [] = (if (!ok || (x.word = wLabel && labs.contains x.text)) = true then some (.error k) else readGo (ls.drop (k + 1)) (k + 1) (if x.word = [] then acc else acc ++ [⟨k, x.word, x.text⟩]) (if x.word = wLabel then x.text :: labs else labs)) := by
          rw [hgo]; simp only [readGo, hone]
        have hgl : wr.heap.size ≤ w2.heap.size := hb3.size
        have hbad : (!ok || (x.word = wLabel && labs.contains x.text)) = true → r = ⟨[], k, 41⟩ := by
          intro hc
          unfold readF at hr
          rw [if_neg (by rw [← hls, List.length_map]; omega), hgo2, if_pos hc] at hr
          simp at hr
          exact hr.symm
        have hlab2 : LabM (w.heap.size + 1) k (labsF labs) w2 := hlab.kept (hb3.block _ hlab.lt)
        have hown2 := own_below hown hb3
        have hbl2 : Below (w.heap.size + 1) (w.alloc (.cells (L.map Value.string).toArray 9)) w2 := hbl.trans (hb3.mono hsz0)
        have hMlt : w.heap.size + 1 < w2.heap.size := hlab2.lt
        clear hlab hown hbl hO hrow hc hgo hgr
        have HG := Lib.hid hgo2
        have HB := Lib.hid hbad
        have HR := Lib.hid hr
        clear hgo2 hbad hr hone
        obtain ⟨word, text⟩ := x
        simp only at hxl hxm HG HB
        by_cases hwl : word = wLabel
        · subst hwl
          have hbw : bs wLabel = ⟨#[108, 97, 98, 101, 108]⟩ := rfl
          have hlab3 : LabM (w.heap.size + 1) k (labsF labs) (w2.alloc (.cells #[.int .i64 0, .string ⟨#[108, 97, 98, 101, 108]⟩, .string (bs text)] 71)) := hlab2.below ((Below.refl _ _).alloc (Nat.le_refl _) _)
          have hget := hlab3.get text hxm
          have hB3 : Below w.heap.size w (w2.alloc (.cells #[.int .i64 0, .string ⟨#[108, 97, 98, 101, 108]⟩, .string (bs text)] 71)) := (hb2.trans (hb3.mono hb2.size)).alloc (Nat.le_trans hb2.size hb3.size) _
          have hbl3 := hbl2.alloc (o := .cells #[.int .i64 0, .string ⟨#[108, 97, 98, 101, 108]⟩, .string (bs text)] 71) (by omega)
          have hN3 := heap_alloc_new w2 (.cells #[.int .i64 0, .string ⟨#[108, 97, 98, 101, 108]⟩, .string (bs text)] 71)
          have hown3 := own_below hown2 ((Below.refl w2.heap.size w2).alloc (Nat.le_refl _) (.cells #[.int .i64 0, .string ⟨#[108, 97, 98, 101, 108]⟩, .string (bs text)] 71))
          have hs3 : (w2.alloc (.cells #[.int .i64 0, .string ⟨#[108, 97, 98, 101, 108]⟩, .string (bs text)] 71)).heap.size = w2.heap.size + 1 := by simp
          rw [hbw]
          by_cases hin : text ∈ labs
          · have hl1 : labsF labs text = 1 := by simp [labsF, hin]
            rw [hl1] at hget
            obtain ⟨w4, hset, hlab4, hg4⟩ := hlab3.set (by unfold maxLen; omega) text hxm 2 (by decide)
            have hget4 := hlab4.get text hxm
            rw [if_pos rfl] at hget4
            have hN4 := (hg4.block w2.heap.size (by simp) (by simp; omega)).trans hN3
            have d1 := Lib.cell_of_heap hN4 1
            have d2 := Lib.cell_of_heap hN4 2
            simp at d1 d2
            have hB4 := hB3.grown hg4 (by simp; omega) (fun g hg => by injection hg with hg; omega)
            have hrr := HB.out (by simp [wLabel, hin])
            subst hrr
            clear hlab3 hbl3 hN3 hown3 hlab4 hg4 hN4 hB3 hs3
            cases ok with
            | false =>
              go_wp2
              go_ret3
              exact ⟨_, rfl, ⟨by simp [lineCells], .inl ⟨rfl, rfl⟩⟩, hB4⟩
            | true =>
              go_wp2
              go_ret3
              exact ⟨_, rfl, ⟨by simp [lineCells], .inl ⟨rfl, rfl⟩⟩, hB4⟩
          · have hl1 : labsF labs text = 0 := by simp [labsF, hin]
            rw [hl1] at hget
            obtain ⟨w4, hset, hlab4, hg4⟩ := hlab3.set (by unfold maxLen; omega) text hxm 1 (by decide)
            have hget4 := hlab4.get text hxm
            rw [if_pos rfl] at hget4
            have hN4 := (hg4.block w2.heap.size (by simp) (by simp; omega)).trans hN3
            have d0 := Lib.cell_of_heap hN4 0
            have d1 := Lib.cell_of_heap hN4 1
            have d2 := Lib.cell_of_heap hN4 2
            have dz := Lib.frozen_of_heap hN4 0
            simp at d0 d1 d2
            have hB4 := hB3.grown hg4 (by simp; omega) (fun g hg => by injection hg with hg; omega)
            cases ok with
            | false =>
              have hrr := HB.out (by simp [wLabel, hin])
              subst hrr
              clear hlab3 hbl3 hN3 hown3 hlab4 hg4 hN4 hB3 hs3
              go_wp2
              go_ret3
              exact ⟨_, rfl, ⟨by simp [lineCells], .inl ⟨rfl, rfl⟩⟩, hB4⟩
            | true =>
              have hgo3 : readGo ls 0 [] [] = readGo (ls.drop (k + 1)) (k + 1) (acc ++ [⟨k, wLabel, text⟩]) (text :: labs) := by
                rw [HG.out, if_neg (by simp [hin]), if_pos rfl, if_neg (by simp [wLabel])]
              have HG3 := Lib.hid hgo3
              have hlab5 : LabM (w.heap.size + 1) (k + 1) (labsF (text :: labs)) w4 := by rw [← labsF_cons text labs hin]; exact hlab4
              have hs4 := hg4.size
              rw [hs3] at hs4
              have hown4 : w4.ownsRow (w.heap.size + 1) 71 3 u6 acc.length (lineCells acc) := hown3.kept hg4 (.inr hno)
              have hbl4 : Below (w.heap.size + 1) (w.alloc (.cells (L.map Value.string).toArray 9)) w4 := hbl3.grown hg4 (by simp; omega) (fun g hg => by injection hg with hg; omega)
              have hN5 : (w4.setCell ⟨w2.heap.size, 0, none⟩ (.int .i64 k)).heap[w2.heap.size]? = some (.cells #[.int .i64 k, .string ⟨#[108, 97, 98, 101, 108]⟩, .string (bs text)] 71 (0, 0)) := set_same hN4 rfl
              have f0 := Lib.cell_of_heap hN5 0
              have f1 := Lib.cell_of_heap hN5 1
              have f2 := Lib.cell_of_heap hN5 2
              simp at f0 f1 f2
              have hsz5 : (w4.setCell ⟨w2.heap.size, 0, none⟩ (.int .i64 k)).heap.size = w4.heap.size := by simp [World.setCell]
              have hbl5 : Below (w.heap.size + 1) (w.alloc (.cells (L.map Value.string).toArray 9)) (w4.setCell ⟨w2.heap.size, 0, none⟩ (.int .i64 k)) := hbl4.setCell (by show w.heap.size + 1 ≤ w2.heap.size; omega) _
              have hlab6 : LabM (w.heap.size + 1) (k + 1) (labsF (text :: labs)) (w4.setCell ⟨w2.heap.size, 0, none⟩ (.int .i64 k)) := hlab5.kept (Below.heap_setCell _ _ _ _ (by show w.heap.size + 1 ≠ w2.heap.size; omega))
              have hown5 : (w4.setCell ⟨w2.heap.size, 0, none⟩ (.int .i64 k)).ownsRow (w.heap.size + 1) 71 3 u6 acc.length (lineCells acc) := hown4.kept (row := some w2.heap.size) ⟨rfl, rfl, rfl, by simp [World.setCell], fun j _ hj => Below.heap_setCell _ _ _ _ (fun e => hj (by simp [e]))⟩ (.inr (fun e => by have := hown2.lt _ e; omega))
              have HK := Lib.hid (And.intro hbl5 (And.intro hlab6 hown5))
              obtain ⟨A, cp, rfl⟩ := own_slice hown2
              clear hgo3 hlab3 hbl3 hN3 hown3 hlab4 hg4 hB3 hs3 hN5 hlab5 hown4 hbl4 hbl5 hlab6 hown5 hB4 hin
              go_wp2_with (at_builtin; (refine wpList_append_new rfl _ _ 50 rfl (w.heap.size + 1) 71 i0 (.agg #[.int .i64 0, .string ⟨#[]⟩, .string ⟨#[]⟩]) 3 40 Tryz.underlying50 hi hz0 hz1 hz2 rfl (by decide) (.slice A acc.length cp) acc.length (lineCells acc) rfl ?c0 ⟨w4.heap.size, 0, none⟩ 1 1 [.int .i64 k, .string ⟨#[108, 97, 98, 101, 108]⟩, .string (bs text)] rfl rfl ?c1 ?c2 (by decide) ?c3 ?c4 ?c5 ?_))
              case c0 => exact own_below HK.out.2.2 ((Below.refl _ _).alloc (Nat.le_refl _) _)
              case c1 => intro j u hu; rw [← hsz5]; exact new_cells1 j u hu
              case c2 => intro u hu; simp at hu; rcases hu with rfl | rfl | rfl <;> rfl
              case c3 => unfold maxLen; omega
              case c4 => omega
              case c5 => simp [hsz5]; omega
              intro v' w5 hown' hgr hfr
              obtain ⟨hbl5, hlab6, hown5⟩ := HK.out
              have hfin : ReadInv (w.heap.size + 1) (k + 1) ls v' (w.alloc (.cells (L.map Value.string).toArray 9)) w5 := by
                refine ⟨acc ++ [⟨k, wLabel, text⟩], text :: labs, HG3.out, by rw [List.length_append, List.length_singleton, lineCells_snoc]; exact hown', by simp; omega, ?_, ?_, fun e => ?_, fun y hy => by rcases List.mem_append.1 hy with h | h; exact htx y h; simp at h; subst h; show text.length ≤ 60000; omega⟩
                · refine hlab6.kept ?_
                  rw [hgr.block _ (by simp [hsz5]; omega) (fun e => hno e.symm), Below.heap_alloc _ _ _ (by rw [hsz5]; omega)]
                · exact (hbl5.alloc (by rw [hsz5]; omega) _).grown hgr (by simp [hsz5]; omega) (fun g hg => (hown2.lt g hg).1)
                · rcases hfr _ e with h1 | h1
                  · exact hno h1
                  · simp [hsz5] at h1; omega
              have HF := Lib.hid hfin
              obtain ⟨A', cp', rfl⟩ := own_slice hown'
              clear hfin hown' hgr hfr
              go_wp2
              go_roundw
              case rel => exact ⟨k + 1, by omega, by go_num, HF.out⟩
              case measure => simp [intOf]; omega
        · have q1 : (word == [108, 97, 98, 101, 108]) = false := by simpa [wLabel] using hwl
          cases ok with
          | false =>
            have hrr := HB.out rfl
            subst hrr
            go_wp2
            go_ret3
            exact ⟨_, rfl, ⟨by simp [lineCells], .inl ⟨rfl, rfl⟩⟩, (hb2.trans (hb3.mono hb2.size)).alloc (Nat.le_trans hb2.size hb3.size) _⟩
          | true =>
            have hgo3 : readGo ls 0 [] [] = readGo (ls.drop (k + 1)) (k + 1) (if word = [] then acc else acc ++ [⟨k, word, text⟩]) labs := by
              rw [HG.out, if_neg (by simp [hwl]), if_neg hwl]
            have HG3 := Lib.hid hgo3
            clear hgo3
            have hlab3 : LabM (w.heap.size + 1) (k + 1) (labsF labs) (w2.alloc (.cells #[.int .i64 0, .string (bs word), .string (bs text)] 71)) := (hlab2.below ((Below.refl _ _).alloc (Nat.le_refl _) _)).mono (by omega)
            by_cases hw0 : word = []
            · have hn0 : (word == ([] : List UInt8)) = true := by simp [hw0]
              have hfin : ReadInv (w.heap.size + 1) (k + 1) ls u6 (w.alloc (.cells (L.map Value.string).toArray 9)) (w2.alloc (.cells #[.int .i64 0, .string (bs word), .string (bs text)] 71)) :=
                ⟨acc, labs, by rw [HG3.out, if_pos hw0], own_below hown2 ((Below.refl _ _).alloc (Nat.le_refl _) _), by omega, hlab3, hbl2.alloc (by omega) _, hno, htx⟩
              have HF := Lib.hid hfin
              clear hfin hw0
              go_wp2
              go_roundw
              case rel => exact ⟨k + 1, by omega, by go_num, HF.out⟩
              case measure => simp [intOf]; omega
            · have hn0 : (word == ([] : List UInt8)) = false := by simp [hw0]
              have HG4 : Hid (readGo ls 0 [] [] = readGo (ls.drop (k + 1)) (k + 1) (acc ++ [⟨k, word, text⟩]) labs) := Lib.hid (by rw [HG3.out, if_neg hw0])
              obtain ⟨A, cp, rfl⟩ := own_slice hown2
              clear hw0
              go_wp2_with (at_builtin; (refine wpList_append_new rfl _ _ 50 rfl (w.heap.size + 1) 71 i0 (.agg #[.int .i64 0, .string ⟨#[]⟩, .string ⟨#[]⟩]) 3 40 Tryz.underlying50 hi hz0 hz1 hz2 rfl (by decide) (.slice A acc.length cp) acc.length (lineCells acc) rfl ?c0 ⟨w2.heap.size + 1, 0, none⟩ 1 1 [.int .i64 k, .string (bs word), .string (bs text)] rfl rfl ?c1 ?c2 (by decide) ?c3 ?c4 ?c5 ?_))
              case c0 => exact own_below hown2 (((Below.refl _ _).alloc (Nat.le_refl _) _).alloc (by simp) _)
              case c1 => exact fun j u hu => new_cells2 j u hu
              case c2 => intro u hu; simp at hu; rcases hu with rfl | rfl | rfl <;> rfl
              case c3 => unfold maxLen; omega
              case c4 => omega
              case c5 => simp; omega
              intro v' w4 hown' hgr hfr
              have hfin : ReadInv (w.heap.size + 1) (k + 1) ls v' (w.alloc (.cells (L.map Value.string).toArray 9)) w4 := by
                refine ⟨acc ++ [⟨k, word, text⟩], labs, HG4.out, by rw [List.length_append, List.length_singleton, lineCells_snoc]; exact hown', by simp; omega, ?_, ?_, fun e => ?_, fun y hy => by rcases List.mem_append.1 hy with h | h; exact htx y h; simp at h; subst h; show text.length ≤ 60000; omega⟩
                · refine (hlab2.kept ?_).mono (by omega)
                  rw [hgr.block _ (by simp; omega) (fun e => hno e.symm), Below.heap_alloc _ _ _ (by simp; omega), Below.heap_alloc _ _ _ hMlt]
                · exact ((hbl2.alloc (by omega) _).alloc (by simp; omega) _).grown hgr (by simp; omega) (fun g hg => (hown2.lt g hg).1)
                · rcases hfr _ e with h1 | h1
                  · exact hno h1
                  · simp at h1; omega
              have HF := Lib.hid hfin
              obtain ⟨A', cp', rfl⟩ := own_slice hown'
              clear hfin hown' hgr hfr
              go_wp2
              go_roundw
              case rel => exact ⟨k + 1, by omega, by go_num, HF.out⟩
              case measure => simp [intOf]; omega
      · have hend : readGo ls 0 [] [] = some (.ok (acc, labs)) := by rw [hgo, List.drop_eq_nil_of_le (by omega)]; rfl
        have hrr : r = match checkGo acc labs with | some n => ⟨[], n, 41⟩ | none => ⟨acc, 0, 0⟩ := by
          unfold readF at hr
          rw [if_neg (by rw [← hls, List.length_map]; omega), hend] at hr
          simp only at hr
          cases hc : checkGo acc labs with
          | some n => rw [hc] at hr; injection hr with hr; exact hr.symm
          | none => rw [hc] at hr; injection hr with hr; exact hr.symm
        have HR := Lib.hid hrr
        have hb2 : Below w.heap.size w wr := ((Below.refl w.heap.size w).alloc (Nat.le_refl _) _).trans (hbl.mono (by omega))
        have hal : acc.length ≤ 4096 := by omega
        have HB := Lib.hid hbl
        obtain ⟨A, cp, rfl⟩ := own_slice hown
        clear hgo hend hr hrr hsm hg hbl
        have hkn : ¬ k < nl + 1 := by rw [← hls, List.length_map] at hlt; omega
        go_wp2
        go_loopw [67] (fun i wx => ∃ j : Nat, j ≤ acc.length ∧ i = .int .i64 j ∧ checkGo acc labs = checkGo (acc.drop j) labs ∧ Below wr.heap.size wr wx) (fun i wx => acc.length - (intOf i).toNat)
        case atStart => exact ⟨0, Nat.zero_le _, rfl, rfl, Below.refl _ _⟩
        case round =>
          obtain ⟨j, hj, rfl, hch, hbx⟩ := hrel
          by_cases hjl : j < acc.length
          · obtain ⟨g, rfl⟩ : ∃ g, A = some ⟨g, 0, none⟩ := by
              rcases hown.2 with ⟨_, h0⟩ | ⟨g, cap, cur, hv, _⟩
              · omega
              · injection hv with hv; exact ⟨g, hv⟩
            have hownx := own_below hown hbx
            obtain ⟨l0, l1, l2⟩ := lineCells_at acc j hjl
            have c0 := hownx.cells (g := g) rfl _ _ l0
            have c1 := hownx.cells (g := g) rfl _ _ l1
            have c2 := hownx.cells (g := g) rfl _ _ l2
            rw [add_plain] at c0 c1 c2
            have hlx := hlab.below hbx
            have htl := htx acc[j] (List.getElem_mem hjl)
            rw [List.drop_eq_getElem_cons hjl] at hch
            simp only [checkGo] at hch
            generalize acc[j] = x at *
            obtain ⟨xa, xw, xt⟩ := x
            simp only at c0 c1 c2 htl hch
            have hget := (hlx.below ((Below.refl _ _).alloc (Nat.le_refl _) (.cells #[.int .i64 xa, .string (bs xw), .string (bs xt)] 71))).get xt (by unfold maxLen; omega)
            have HC := Lib.hid hch
            have HO := Lib.hid hownx
            clear hch hlx l0 l1 l2 hownx
            have hbxa := hbx.alloc (o := .cells #[.int .i64 xa, .string (bs xw), .string (bs xt)] 71) hbx.size
            have hnext : (xw ≠ wJump ∧ xw ≠ wIf ∨ xt ∈ labs) → checkGo acc labs = checkGo (acc.drop (j + 1)) labs := by
              intro h
              rw [HC.out, if_neg]
              rintro ⟨h1, h2⟩
              rcases h with ⟨h3, h4⟩ | h3
              · rcases h1 with h1 | h1
                · exact h3 h1
                · exact h4 h1
              · exact h2 h3
            have hstop : (xw = wJump ∨ xw = wIf) ∧ xt ∉ labs → r = ⟨[], xa, 41⟩ := by
              intro h
              rw [HR.out, HC.out, if_pos h]
            have HN := Lib.hid hnext
            have HS := Lib.hid hstop
            clear hnext hstop
            by_cases hw1 : xw = wJump
            · have q1 : (xw == [106, 117, 109, 112]) = true := by simp [hw1, wJump]
              by_cases hin : xt ∈ labs
              · have hl1 : labsF labs xt = 1 := by simp [labsF, hin]
                rw [hl1] at hget
                have hfin := HN.out (.inr hin)
                have HF := Lib.hid hfin
                clear hfin hin hw1
                go_wp2
                go_roundw
                case rel => exact ⟨j + 1, by omega, by go_num, HF.out, hbxa⟩
                case measure => simp [intOf]; omega
              · have hl1 : labsF labs xt = 0 := by simp [labsF, hin]
                rw [hl1] at hget
                have hfin := HS.out ⟨.inl hw1, hin⟩
                subst hfin
                clear hin hw1
                go_wp2
                go_region
                go_wp2
                go_ret3
                exact ⟨_, rfl, ⟨by simp [lineCells], .inl ⟨rfl, rfl⟩⟩, ((hb2.trans (hbxa.mono hb2.size)).drew)⟩
            · have q1 : (xw == [106, 117, 109, 112]) = false := by simpa [wJump] using hw1
              by_cases hw2 : xw = wIf
              · have q2 : (xw == [105, 102]) = true := by simp [hw2, wIf]
                by_cases hin : xt ∈ labs
                · have hl1 : labsF labs xt = 1 := by simp [labsF, hin]
                  rw [hl1] at hget
                  have hfin := HN.out (.inr hin)
                  have HF := Lib.hid hfin
                  clear hfin hin hw1 hw2
                  go_wp2
                  go_roundw
                  case rel => exact ⟨j + 1, by omega, by go_num, HF.out, hbxa⟩
                  case measure => simp [intOf]; omega
                · have hl1 : labsF labs xt = 0 := by simp [labsF, hin]
                  rw [hl1] at hget
                  have hfin := HS.out ⟨.inr hw2, hin⟩
                  subst hfin
                  clear hin hw1 hw2
                  go_wp2
                  go_region
                  go_wp2
                  go_ret3
                  exact ⟨_, rfl, ⟨by simp [lineCells], .inl ⟨rfl, rfl⟩⟩, ((hb2.trans (hbxa.mono hb2.size)).drew)⟩
              · have q2 : (xw == [105, 102]) = false := by simpa [wIf] using hw2
                have hfin := HN.out (.inl ⟨hw1, hw2⟩)
                have HF := Lib.hid hfin
                clear hfin hw1 hw2 hget
                go_wp2
                go_roundw
                case rel => exact ⟨j + 1, by omega, by go_num, HF.out, hbxa⟩
                case measure => simp [intOf]; omega
          · have hend : r = ⟨acc, 0, 0⟩ := by rw [HR.out, hch, List.drop_eq_nil_of_le (by omega)]; rfl
            subst hend
            have hownx := own_below hown hbx
            have HX := Lib.hid (And.intro hownx (hb2.trans (hbx.mono hb2.size)))
            clear hch hownx hbx hown
            go_wp2
            go_ret3
            obtain ⟨⟨h1, h2⟩, h3⟩ := HX.out
            refine ⟨_, rfl, ⟨h1, ?_⟩, h3⟩
            rcases h2 with h2 | ⟨g, cap, cur, hv, hb, hr⟩
            · exact .inl h2
            · exact .inr ⟨g, cap, cur, hv, by omega, hr⟩
end Go.Proofs.YtejpkjcjoengbaaGreatDoor
