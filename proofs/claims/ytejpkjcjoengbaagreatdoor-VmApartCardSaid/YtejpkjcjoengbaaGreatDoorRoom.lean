/-
  stillroomlaw23.room, large and inputs, by walk: only that they answer.
-/
import Derived.Test.YtejpkjcjoengbaaGreatDoorVmV
import Derived.Test.YtejpkjcjoengbaaGreatDoorWrong
import Derived.Test.YtejpkjcjoengbaaGreatDoorApp
set_option linter.unusedVariables false
set_option linter.unusedSimpArgs false
namespace Go.Proofs.YtejpkjcjoengbaaGreatDoor
open Go.RowKit

def RoomP (n : Nd) : Prop := ∀ (F : Nat → Prop) (w : World) (cl : List Value) (depth left : Int), NdIs F w n cl → (∀ k, F k → k < w.heap.size) → 0 ≤ depth → depth ≤ 1000 → 0 ≤ left → left ≤ 3000 →
  Calls Tryz.prog 16 #[.agg cl.toArray, .int .i64 depth, .int .i64 left] w fun x w' => (∃ r : Int, x = .returned (.int .i64 r) ∧ -1 ≤ r ∧ r ≤ 3000) ∧ Below w.heap.size w w'

set_option maxHeartbeats 1000000 in
set_option maxRecDepth 100000 in
theorem room_walk (n : Nd) (ih : ∀ x ∈ n.nodes, RoomP x) : RoomP n := by
  intro F w cl depth left hN hF hd0 hd1 hl0 hl1
  obtain ⟨dA, dc, nA, nc, sA, sc, rfl, hD, hNm, cs, hS, hNs⟩ := hN.cells
  have hdl := hD.1
  have hnl := hNm.1
  have hsl := hS.1
  unfold maxLen at hdl hnl hsl
  clear hN hD hNm
  generalize n.kind = k at *
  generalize n.exec = e at *
  generalize n.data.length = dn at *
  generalize n.names.length = nn at *
  generalize n.nodes = ns at *
  by_cases hl : left - 1 - dn / 100 - nn / 4 < 0
  · go_enter Tryz.func16, Tryz.ntmps16
    go_wp2
    go_ret
    exact ⟨⟨-1, rfl, by omega, by omega⟩, (Below.refl _ _).alloc (Nat.le_refl _) _⟩
  by_cases hd : depth > 40
  · go_enter Tryz.func16, Tryz.ntmps16
    go_wp2
    go_ret
    exact ⟨⟨-1, rfl, by omega, by omega⟩, (Below.refl _ _).alloc (Nat.le_refl _) _⟩
  have hll : 0 ≤ left - 1 - dn / 100 - nn / 4 ∧ left - 1 - dn / 100 - nn / 4 ≤ 3000 := by omega
  go_enter Tryz.func16, Tryz.ntmps16
  go_wp2
  go_loopw [2, 7] (fun a i wr => ∃ (j : Nat) (all : Int), j ≤ ns.length ∧ i = .int .i64 j ∧ a = .int .i64 all ∧ 0 ≤ all ∧ all ≤ 3000 ∧ Below w.heap.size w wr ∧ wr.heap[w.heap.size]? = some (.cells #[.int .i64 k, .bool e, .slice dA dn dc, .slice nA nn nc, .slice sA ns.length sc] 32 (0, 0))) (fun a i wr => ns.length - (intOf i).toNat)
  case atStart => exact ⟨0, _, Nat.zero_le _, rfl, rfl, hll.1, hll.2, (Below.refl _ _).alloc (Nat.le_refl _) _, heap_alloc_new w _⟩
  case round =>
    obtain ⟨j, all, hj, rfl, rfl, ha0, ha1, hb, hbk⟩ := hrel
    have b4 : wr.cell? ⟨w.heap.size, 4, none⟩ = some (.slice sA ns.length sc) := by simp [World.cell?, hbk]
    by_cases hlt : j < ns.length
    · have hkp : ∀ k, F k → wr.heap[k]? = w.heap[k]? := fun k hk => hb.block k (hF k hk)
      have hFr : ∀ k, F k → k < wr.heap.size := fun k hk => Nat.lt_of_lt_of_le (hF k hk) hb.size
      obtain ⟨g, o, dA1, dc1, nA1, nc1, sA1, sc1, rfl, _, hFg, hel, c0, c1, c2, c3, c4⟩ := NdIs.elem (hS.kept hkp) (hNs.kept hkp) j hlt
      have ihx := ih ns[j] (List.getElem_mem hlt)
      generalize ns[j] = x at *
      generalize x.kind = k1 at *
      generalize x.exec = e1 at *
      generalize x.data.length = dn1 at *
      generalize x.names.length = nn1 at *
      generalize x.nodes.length = sn1 at *
      have hcall := ihx F wr _ (depth + 1) all hel hFr (by omega) (by omega) ha0 ha1
      clear hel hkp ih ihx hS hNs
      go_wp2_with (go_at_call 16; refine hcall.mono ?_)
      first | rintro ev w2 r rfl hr0 hr1 hb2 | rintro ev w2 ⟨⟨r, rfl, hr0, hr1⟩, hb2⟩
      have hb3 := hb.trans (hb2.mono hb.size)
      have hbk2 := (hb2.block w.heap.size (Array.getElem?_eq_some_iff.1 hbk).1).trans hbk
      by_cases hrn : r < 0
      · go_wp2
        go_ret
        exact ⟨⟨-1, rfl, by omega, by omega⟩, hb3⟩
      · go_wp2
        go_roundw
        case rel => exact ⟨j + 1, r, by omega, by go_num, rfl, by omega, hr1, hb3, hbk2⟩
        case measure => simp [intOf]; omega
    · clear hS hNs
      go_wp2
      go_ret
      exact ⟨⟨all, rfl, by omega, by omega⟩, hb⟩
mutual
theorem room_any : ∀ n : Nd, RoomP n
  | .mk k e d na ns => room_walk (.mk k e d na ns) (rooms_any ns)
theorem rooms_any : ∀ (l : List Nd) (x : Nd), x ∈ l → RoomP x
  | [], x, h => absurd h (by simp)
  | n :: r, x, h => by
    rcases List.mem_cons.1 h with h | h
    · rw [h]; exact room_any n
    · exact rooms_any r x h
end
def LargePost (w : World) (x : Ending) (w' : World) : Prop := (∃ b, x = .returned (.bool b)) ∧ Below w.heap.size w w'
theorem large_any {F : Nat → Prop} {w : World} {n : Nd} {cl : List Value} (hN : NdIs F w n cl) (hF : ∀ k, F k → k < w.heap.size) :
    Calls Tryz.prog 11 #[.agg cl.toArray, .int .i64 0] w (LargePost w) := by
  obtain ⟨dA, dc, nA, nc, sA, sc, rfl, _⟩ := hN.cells
  have hb0 : Below w.heap.size w (w.alloc (.cells #[.int .i64 n.kind, .bool n.exec, .slice dA n.data.length dc, .slice nA n.names.length nc, .slice sA n.nodes.length sc] 32)) := (Below.refl _ _).alloc (Nat.le_refl _) _
  have hcall := room_any n F (w.alloc (.cells #[.int .i64 n.kind, .bool n.exec, .slice dA n.data.length dc, .slice nA n.names.length nc, .slice sA n.nodes.length sc] 32)) _ 0 3000 (hN.kept (w' := w.alloc (.cells #[.int .i64 n.kind, .bool n.exec, .slice dA n.data.length dc, .slice nA n.names.length nc, .slice sA n.nodes.length sc] 32)) (fun k hk => hb0.block k (hF k hk))) (fun k hk => Nat.lt_of_lt_of_le (hF k hk) hb0.size) (by decide) (by decide) (by decide) (by decide)
  generalize n.kind = k at *
  generalize n.exec = e at *
  generalize n.data.length = dn at *
  generalize n.names.length = nn at *
  generalize n.nodes.length = sn at *
  clear hN
  go_enter Tryz.func11, Tryz.ntmps11
  go_wp2_with (go_at_call 16; refine hcall.mono ?_)
  first | rintro ev w2 r rfl hr0 hr1 hb2 | rintro ev w2 ⟨⟨r, rfl, hr0, hr1⟩, hb2⟩
  go_wp2
  go_ret
  exact ⟨⟨_, rfl⟩, hb0.trans (hb2.mono hb0.size)⟩

def InputsPost (en an : Nat) (w : World) (x : Ending) (w' : World) : Prop :=
  (∃ v ok, x = .returned (.tuple #[v, .bool ok]) ∧ (ok = true → en ≤ 200 ∧ an ≤ 200)) ∧ Below w.heap.size w w'
theorem infoRI : (Tryz.prog.info? 66).map (fun i => (i.zero, i.size, i.bytes)) = some (some (.agg #[.string ⟨#[]⟩, .int .i64 0, .bool false, .slice none 0 0, .slice none 0 0, .slice none 0 0]), 6, 104) := by kernel_rfl

set_option maxHeartbeats 1000000 in
set_option maxRecDepth 100000 in
theorem inputs_any {w : World} {eA aA : Option Addr} {en ec an ac : Nat} {iv : Value} {ins : List (List UInt8 × Nd)} {cs : List Value} (hen : en ≤ maxLen) (han : an ≤ maxLen) (hS : SliceIs (fun k => k < w.heap.size) 6 iv ins.length cs w) (hI : InsIs (fun k => k < w.heap.size) w ins cs) :
    Calls Tryz.prog 9 #[.agg #[.slice eA en ec, .slice aA an ac, iv]] w (InputsPost en an w) := by
  obtain ⟨i0, hi, hz0, hz1, hz2⟩ := info_parts infoRI
  obtain ⟨hil, iA, ic, rfl, hA⟩ := hS
  unfold maxLen at hen han hil
  by_cases h1 : 20 < ins.length
  · go_enter Tryz.func9, Tryz.ntmps9
    go_wp2
    go_ret2
    exact ⟨⟨_, false, rfl, fun h => by cases h⟩, (Below.refl _ _).alloc (Nat.le_refl _) _⟩
  by_cases h2 : 200 < en
  · go_enter Tryz.func9, Tryz.ntmps9
    go_wp2
    go_ret2
    exact ⟨⟨_, false, rfl, fun h => by cases h⟩, (Below.refl _ _).alloc (Nat.le_refl _) _⟩
  by_cases h3 : 200 < an
  · go_enter Tryz.func9, Tryz.ntmps9
    go_wp2
    go_ret2
    exact ⟨⟨_, false, rfl, fun h => by cases h⟩, (Below.refl _ _).alloc (Nat.le_refl _) _⟩
  go_enter Tryz.func9, Tryz.ntmps9
  go_wp2
  go_loopw [4, 5] (fun a i wr => ∃ (j : Nat) (xs : List Value), j ≤ ins.length ∧ i = .int .i64 j ∧ wr.ownsRow (w.heap.size + 1) 66 6 a j xs ∧ Below w.heap.size w wr ∧ wr.heap[w.heap.size]? = some (.cells #[.slice eA en ec, .slice aA an ac, .slice iA ins.length ic] 26 (0, 0)) ∧ w.heap.size + 1 ≤ wr.heap.size) (fun a i wr => ins.length - (intOf i).toNat)
  case atStart => exact ⟨0, [], Nat.zero_le _, rfl, ⟨rfl, .inl ⟨rfl, rfl⟩⟩, (Below.refl _ _).alloc (Nat.le_refl _) _, heap_alloc_new w _, by simp⟩
  case round =>
    obtain ⟨j, xs, hj, rfl, hown, hb, hbk, hsz⟩ := hrel
    have b2 : wr.cell? ⟨w.heap.size, 2, none⟩ = some (.slice iA ins.length ic) := by simp [World.cell?, hbk]
    by_cases hlt : j < ins.length
    · obtain ⟨g, o, rfl, hgw, hcl, hcs⟩ := hA (by omega)
      obtain ⟨cn, hn, hc0, hcj⟩ := InsIs.at hI j hlt
      obtain ⟨dA, dc, nA, nc, sA, sc, rfl, _⟩ := hn.cells
      have hc' : ∀ i x, ([.int .i64 ins[j].2.kind, .bool ins[j].2.exec, .slice dA ins[j].2.data.length dc, .slice nA ins[j].2.names.length nc, .slice sA ins[j].2.nodes.length sc] : List Value)[i]? = some x → i < 5 → wr.cell? ⟨g, o + (j * 6 + 1 + i), none⟩ = some x := fun i x hi h5 => (hb.cell (p := ⟨g, o + (j * 6 + 1 + i), none⟩) hgw).trans (hcs _ _ (by rw [hcj i h5]; exact hi))
      have c0 : wr.cell? ⟨g, o + j * 6, none⟩ = some (.string (bs ins[j].1)) := (hb.cell (p := ⟨g, o + j * 6, none⟩) hgw).trans (hcs _ _ hc0)
      have c1 : wr.cell? ⟨g, o + j * 6 + 1, none⟩ = _ := hc' 0 _ rfl (by decide)
      have c2 : wr.cell? ⟨g, o + j * 6 + 2, none⟩ = _ := hc' 1 _ rfl (by decide)
      have c3 : wr.cell? ⟨g, o + j * 6 + 3, none⟩ = _ := hc' 2 _ rfl (by decide)
      have c4 : wr.cell? ⟨g, o + j * 6 + 4, none⟩ = _ := hc' 3 _ rfl (by decide)
      have c5 : wr.cell? ⟨g, o + j * 6 + 5, none⟩ = _ := hc' 4 _ rfl (by decide)
      have hnk : NdIs (fun k => k < w.heap.size) wr ins[j].2 _ := hn.kept (w' := wr) (fun k hk => hb.block k hk)
      have hlg := large_any hnk (fun k hk => Nat.lt_of_lt_of_le hk hb.size)
      generalize ins[j] = y at *
      obtain ⟨q, n⟩ := y
      simp only at c0 c1 c2 c3 c4 c5 hlg
      clear hc' hcj hc0 hn hnk hI hA
      generalize n.kind = k1 at *
      generalize n.exec = e1 at *
      generalize n.data.length = dn1 at *
      generalize n.names.length = nn1 at *
      generalize n.nodes.length = sn1 at *
      go_wp2_with (go_at_call 11; refine hlg.mono ?_)
      intro ev w2 hp
      obtain ⟨⟨b, rfl⟩, hb2⟩ := hp
      have hb3 := hb.trans (hb2.mono hb.size)
      have hbk2 := (hb2.block w.heap.size (Array.getElem?_eq_some_iff.1 hbk).1).trans hbk
      have b2' : w2.cell? ⟨w.heap.size, 2, none⟩ = some (.slice (some ⟨g, o, none⟩) ins.length ic) := by simp [World.cell?, hbk2]
      have hgr0 : g < wr.heap.size := Nat.lt_of_lt_of_le hgw hb.size
      have d0 := (hb2.cell (p := ⟨g, o + j * 6, none⟩) hgr0).trans c0
      have d1 := (hb2.cell (p := ⟨g, o + j * 6 + 1, none⟩) hgr0).trans c1
      have d2 := (hb2.cell (p := ⟨g, o + j * 6 + 2, none⟩) hgr0).trans c2
      have d3 := (hb2.cell (p := ⟨g, o + j * 6 + 3, none⟩) hgr0).trans c3
      have d4 := (hb2.cell (p := ⟨g, o + j * 6 + 4, none⟩) hgr0).trans c4
      have d5 := (hb2.cell (p := ⟨g, o + j * 6 + 5, none⟩) hgr0).trans c5
      have hown2 := own_below hown hb2
      have hsz2 := Nat.le_trans hsz hb2.size
      clear c0 c1 c2 c3 c4 c5 b2 hown hbk
      cases b with
      | true =>
        go_wp2
        go_ret2
        exact ⟨⟨_, false, rfl, fun h => by cases h⟩, hb3⟩
      | false =>
        obtain ⟨A, cp, rfl⟩ := own_slice hown2
        go_wp2_with (at_builtin; (refine wpList_append_new rfl _ _ 36 rfl (w.heap.size + 1) 66 i0 (.agg #[.string ⟨#[]⟩, .int .i64 0, .bool false, .slice none 0 0, .slice none 0 0, .slice none 0 0]) 6 104 Tryz.underlying36 hi hz0 hz1 hz2 rfl (by decide) (.slice A j cp) j xs rfl ?c0 ⟨w2.heap.size, 0, none⟩ 1 1 [.string (bs q), .int .i64 k1, .bool e1, .slice dA dn1 dc, .slice nA nn1 nc, .slice sA sn1 sc] rfl rfl ?c1 ?c2 (by decide) ?c3 ?c4 ?c5 ?_))
        case c0 => exact own_below hown2 ((Below.refl _ _).alloc (Nat.le_refl _) _)
        case c1 => exact fun j u hu => new_cells1 j u hu
        case c2 => intro u hu; simp at hu; rcases hu with rfl | rfl | rfl | rfl | rfl | rfl <;> rfl
        case c3 => unfold maxLen; omega
        case c4 => omega
        case c5 => simp; omega
        intro v' w4 hown' hgr hfr
        have hb4 := (hb3.alloc hb3.size (.cells #[.string (bs q), .int .i64 k1, .bool e1, .slice dA dn1 dc, .slice nA nn1 nc, .slice sA sn1 sc] 66)).grown hgr (by simp; omega) (fun g hg => by have := (hown2.lt g hg).1; omega)
        have hbk4 : w4.heap[w.heap.size]? = some (.cells #[.slice eA en ec, .slice aA an ac, .slice (some ⟨g, o, none⟩) ins.length ic] 26 (0, 0)) := by
          rw [hgr.block _ (by simp; omega) (fun e => by have := (hown2.lt _ e.symm).1; omega), Below.heap_alloc _ _ _ (by omega)]
          exact hbk2
        have hsz4 : w.heap.size + 1 ≤ w4.heap.size := by
          have := (Array.getElem?_eq_some_iff.1 hbk4).1
          omega
        obtain ⟨A', cp', rfl⟩ := own_slice hown'
        have HF := Lib.hid (And.intro hown' (And.intro hb4 hbk4))
        clear hown' hgr hfr hb4 hbk4
        go_wp2
        go_roundw
        case rel => exact ⟨j + 1, _, by omega, by go_num, HF.out.1, HF.out.2.1, HF.out.2.2, hsz4⟩
        case measure => simp [intOf]; omega
    · clear hA hI
      go_wp2
      go_ret2
      exact ⟨⟨_, true, rfl, fun _ => by omega⟩, hb⟩
end Go.Proofs.YtejpkjcjoengbaaGreatDoor
