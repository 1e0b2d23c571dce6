/-
  The law VmApart, by walk: first what stays of its worlds (plain), then the walk.
-/
import Derived.Test.YtejpkjcjoengbaaGreatDoorPureV
import Derived.Test.YtejpkjcjoengbaaGreatDoorRoom
import Derived.Test.YtejpkjcjoengbaaGreatDoorSame
set_option linter.unusedVariables false
set_option linter.unusedSimpArgs false
namespace Go.Proofs.YtejpkjcjoengbaaGreatDoor
open Go.RowKit

theorem slice_of_own {w : World} {L n : Nat} {e : TypeId} {size : Nat} {v : Value} {xs : List Value} (h : w.ownsRow L e size v n xs) (hn : n ≤ maxLen) : SliceIs (fun k => L ≤ k ∧ k < w.heap.size) size v n xs w := by
  obtain ⟨hl, ⟨rfl, rfl⟩ | ⟨g, cap, cur, rfl, h1, h2, h3, h4, h5, h6⟩⟩ := h
  · exact ⟨hn, _, _, rfl, fun h => absurd h (Nat.lt_irrefl _)⟩
  · refine ⟨hn, _, _, rfl, fun _ => ⟨g, 0, rfl, ⟨h1, (Array.getElem?_eq_some_iff.1 h2).1⟩, hl, fun j x hx => ?_⟩⟩
    refine cells_at h2 j x ?_
    rw [← h6, List.getElem?_take] at hx
    split at hx
    · exact hx
    · cases hx
theorem InsIs.mono {F G : Nat → Prop} {w : World} (hk : ∀ k, F k → G k) : ∀ (l : List (List UInt8 × Nd)) {cells : List Value}, InsIs F w l cells → InsIs G w l cells
  | [], cells, h => h
  | (p, n) :: r, cells, h => by
    obtain ⟨c1, c2, h1, h2, h3⟩ := h
    exact ⟨c1, c2, h1, h2.mono hk, InsIs.mono hk r h3⟩
theorem held_of_slice {B size n : Nat} {v : Value} {cells : List Value} {w : World} (h : SliceIs (fun k => k < B) size v n cells w) (hn : n ≤ 200) : HeldRow B v n cells w := by
  obtain ⟨_, A, c, rfl, h⟩ := h
  refine ⟨by omega, A, c, rfl, fun h0 => ?_⟩
  obtain ⟨g, o, rfl, hg, _, hc⟩ := h h0
  exact ⟨g, o, rfl, hg, hc⟩
theorem wdis_gen {V : World} {env : Pairs} {args : List (List UInt8)} {ins : List (List UInt8 × Nd)} {cells : List Value} {ev av iv : Value} {B1 : Nat} (hB1 : B1 ≤ V.heap.size)
    (hE : SliceIs (fun k => k < B1) 2 ev env.length (pairCells env) V) (hA : SliceIs (fun k => k < B1) 1 av args.length (strCells args) V) (he : env.length ≤ 200) (ha : args.length ≤ 200)
    {F G : Nat → Prop} (hS : SliceIs F 6 iv ins.length cells V) (hF : ∀ k, F k → k < V.heap.size) (hI : InsIs G V ins cells) (hG : ∀ k, G k → k < V.heap.size) (hp : ∀ x ∈ ins, x.1.length ≤ 281474976710656) :
    WdIs V.heap.size ⟨env, args, ins⟩ ev av iv V :=
  ⟨held_of_slice (hE.mono (fun k hk => by omega)) he, held_of_slice (hA.mono (fun k hk => by omega)) ha, ⟨cells, hS.mono hF, hI.mono hG⟩, hp⟩
theorem dirA_is {V : World} {F : Nat → Prop} {a b c : Nat} {other : Nd} {ok : Int} {oe : Bool} {od on os : Value} {t0 t1 t2 : TypeId} {f0 f1 f2 : Nat × Nat}
    (h0 : V.heap[a]? = some (.cells #[.string ⟨#[97]⟩, .string ⟨#[98]⟩] t0 f0)) (h1 : V.heap[b]? = some (.cells #[.int .u8 120] t1 f1))
    (h2 : V.heap[c]? = some (.cells #[.int .i64 1, .bool false, .slice (some ⟨b, 0, none⟩) 1 1, .slice none 0 0, .slice none 0 0, .int .i64 ok, .bool oe, od, on, os] t2 f2))
    (hO : NdIs F V other [.int .i64 ok, .bool oe, od, on, os]) (ha : F a) (hb : F b) (hc : F c) :
    NdIs F V (dirA other) [.int .i64 2, .bool false, .slice none 0 0, .slice (some ⟨a, 0, none⟩) 2 2, .slice (some ⟨c, 0, none⟩) 2 2] := by
  simp only [dirA, NdIs]
  refine ⟨_, _, _, rfl, SliceIs.nil _ _ _, ⟨by simp [maxLen], _, _, rfl, fun _ => ⟨a, 0, rfl, ha, rfl, fun j x hx => cells_at h0 j x hx⟩⟩,
    [.int .i64 1, .bool false, .slice (some ⟨b, 0, none⟩) 1 1, .slice none 0 0, .slice none 0 0, .int .i64 ok, .bool oe, od, on, os],
    ⟨by simp [maxLen], _, _, rfl, fun _ => ⟨c, 0, rfl, hc, rfl, fun j x hx => cells_at h2 j x hx⟩⟩, ?_⟩
  simp only [NdsIs]
  refine ⟨[.int .i64 1, .bool false, .slice (some ⟨b, 0, none⟩) 1 1, .slice none 0 0, .slice none 0 0], [.int .i64 ok, .bool oe, od, on, os], rfl, ?_, _, [], (List.append_nil _).symm, hO, rfl⟩
  simp only [leafNd, NdIs]
  exact ⟨_, _, _, rfl, ⟨by simp [maxLen], _, _, rfl, fun _ => ⟨b, 0, rfl, hb, rfl, fun j x hx => cells_at h1 j x hx⟩⟩, SliceIs.nil _ _ _, [], SliceIs.nil _ _ _, rfl⟩
theorem heap4 (w : World) (A B C D : Obj) : ((((w.alloc A).alloc B).alloc C).alloc D).heap[w.heap.size]? = some A ∧ ((((w.alloc A).alloc B).alloc C).alloc D).heap[w.heap.size + 1]? = some B ∧
    ((((w.alloc A).alloc B).alloc C).alloc D).heap[w.heap.size + 1 + 1]? = some C ∧ ((((w.alloc A).alloc B).alloc C).alloc D).heap[w.heap.size + 1 + 1 + 1]? = some D ∧ ((((w.alloc A).alloc B).alloc C).alloc D).heap.size = w.heap.size + 4 ∧
    ∀ k, k < w.heap.size → ((((w.alloc A).alloc B).alloc C).alloc D).heap[k]? = w.heap[k]? := by
  have s1 : (w.alloc A).heap.size = w.heap.size + 1 := by simp
  have s2 : ((w.alloc A).alloc B).heap.size = w.heap.size + 1 + 1 := by simp
  have s3 : (((w.alloc A).alloc B).alloc C).heap.size = w.heap.size + 1 + 1 + 1 := by simp
  have h2 := heap_alloc_new (w.alloc A) B
  have h3 := heap_alloc_new ((w.alloc A).alloc B) C
  have h4 := heap_alloc_new (((w.alloc A).alloc B).alloc C) D
  rw [s1] at h2
  rw [s2] at h3
  rw [s3] at h4
  refine ⟨alloc_heap (alloc_heap (alloc_heap (heap_alloc_new w A))), alloc_heap (alloc_heap h2), alloc_heap h3, h4, by simp, fun k hk => ?_⟩
  rw [Below.heap_alloc _ _ _ (by omega), Below.heap_alloc _ _ _ (by omega), Below.heap_alloc _ _ _ (by omega), Below.heap_alloc _ _ _ (by omega)]
/-- What stands behind the law's own input being laid. -/
structure Laid (w W : World) (L : Nat) (env : Pairs) (args : List (List UInt8)) (other : Nd) (ev av : Value) (iv : Value) (ocl : List Value) : Prop where
  below : Below w.heap.size w W
  lt : w.heap.size + 2 ≤ L ∧ L + 4 ≤ W.heap.size
  world : W.heap[w.heap.size]? = some (.cells #[ev, av, iv] 26 (0, 0))
  node : W.heap[w.heap.size + 1]? = some (.cells ocl.toArray 32 (0, 0))
  row : W.heap[L + 1 + 1 + 1]? = some (.cells #[.string ⟨#[47, 105, 110]⟩, .int .i64 2, .bool false, .slice none 0 0, .slice (some ⟨L, 0, none⟩) 2 2, .slice (some ⟨L + 1 + 1, 0, none⟩) 2 2] 43 (0, 0))
  dir : NdIs (fun k => k < L + 4 ∧ k ≠ w.heap.size) W (dirA other) [.int .i64 2, .bool false, .slice none 0 0, .slice (some ⟨L, 0, none⟩) 2 2, .slice (some ⟨L + 1 + 1, 0, none⟩) 2 2]
  oth : NdIs (fun k => k < w.heap.size) W other ocl
  env : SliceIs (fun k => k < w.heap.size) 2 ev env.length (pairCells env) W
  args : SliceIs (fun k => k < w.heap.size) 1 av args.length (strCells args) W
theorem laid_in {w w3 : World} {env : Pairs} {args : List (List UInt8)} {other : Nd} {ev av iv : Value} {ok : Int} {oe : Bool} {od on os : Value}
    (hb : Below w.heap.size w w3) (hsz : w.heap.size + 2 ≤ w3.heap.size) (n0 : w3.heap[w.heap.size]? = some (.cells #[ev, av, iv] 26 (0, 0)))
    (n1 : w3.heap[w.heap.size + 1]? = some (.cells #[.int .i64 ok, .bool oe, od, on, os] 32 (0, 0)))
    (hE : SliceIs (fun k => k < w.heap.size) 2 ev env.length (pairCells env) w) (hA : SliceIs (fun k => k < w.heap.size) 1 av args.length (strCells args) w)
    (hO : NdIs (fun k => k < w.heap.size) w other [.int .i64 ok, .bool oe, od, on, os]) (t0 t1 : TypeId) (f1 : Nat × Nat) :
    Laid w (((((w3.alloc (.cells #[.string ⟨#[97]⟩, .string ⟨#[98]⟩] t0)).alloc (.cells #[.int .u8 120] t1 f1)).alloc (.cells #[.int .i64 1, .bool false, .slice (some ⟨w3.heap.size + 1, 0, none⟩) 1 1, .slice none 0 0, .slice none 0 0, .int .i64 ok, .bool oe, od, on, os] 32)).alloc (.cells #[.string ⟨#[47, 105, 110]⟩, .int .i64 2, .bool false, .slice none 0 0, .slice (some ⟨w3.heap.size, 0, none⟩) 2 2, .slice (some ⟨w3.heap.size + 1 + 1, 0, none⟩) 2 2] 43)).setCell ⟨w.heap.size, 2, none⟩ (.slice (some ⟨w3.heap.size + 1 + 1 + 1, 0, none⟩) 1 1)) w3.heap.size env args other ev av (.slice (some ⟨w3.heap.size + 1 + 1 + 1, 0, none⟩) 1 1) [.int .i64 ok, .bool oe, od, on, os] := by
  obtain ⟨h0, h1, h2, h3, h4, h5⟩ := heap4 w3 (.cells #[.string ⟨#[97]⟩, .string ⟨#[98]⟩] t0) (.cells #[.int .u8 120] t1 f1) (.cells #[.int .i64 1, .bool false, .slice (some ⟨w3.heap.size + 1, 0, none⟩) 1 1, .slice none 0 0, .slice none 0 0, .int .i64 ok, .bool oe, od, on, os] 32) (.cells #[.string ⟨#[47, 105, 110]⟩, .int .i64 2, .bool false, .slice none 0 0, .slice (some ⟨w3.heap.size, 0, none⟩) 2 2, .slice (some ⟨w3.heap.size + 1 + 1, 0, none⟩) 2 2] 43)
  have hb5 : Below w.heap.size w ((((w3.alloc (.cells #[.string ⟨#[97]⟩, .string ⟨#[98]⟩] t0)).alloc (.cells #[.int .u8 120] t1 f1)).alloc (.cells #[.int .i64 1, .bool false, .slice (some ⟨w3.heap.size + 1, 0, none⟩) 1 1, .slice none 0 0, .slice none 0 0, .int .i64 ok, .bool oe, od, on, os] 32)).alloc (.cells #[.string ⟨#[47, 105, 110]⟩, .int .i64 2, .bool false, .slice none 0 0, .slice (some ⟨w3.heap.size, 0, none⟩) 2 2, .slice (some ⟨w3.heap.size + 1 + 1, 0, none⟩) 2 2] 43)) :=
    (((hb.alloc (by omega) _).alloc (by simp; omega) _).alloc (by simp; omega) _).alloc (by simp; omega) _
  generalize ((((w3.alloc (.cells #[.string ⟨#[97]⟩, .string ⟨#[98]⟩] t0)).alloc (.cells #[.int .u8 120] t1 f1)).alloc (.cells #[.int .i64 1, .bool false, .slice (some ⟨w3.heap.size + 1, 0, none⟩) 1 1, .slice none 0 0, .slice none 0 0, .int .i64 ok, .bool oe, od, on, os] 32)).alloc (.cells #[.string ⟨#[47, 105, 110]⟩, .int .i64 2, .bool false, .slice none 0 0, .slice (some ⟨w3.heap.size, 0, none⟩) 2 2, .slice (some ⟨w3.heap.size + 1 + 1, 0, none⟩) 2 2] 43)) = W5 at *
  have hb6 : Below w.heap.size w (W5.setCell ⟨w.heap.size, 2, none⟩ (.slice (some ⟨w3.heap.size + 1 + 1 + 1, 0, none⟩) 1 1)) := hb5.setCell (by show w.heap.size ≤ w.heap.size; omega) _
  have hset : ∀ k, k ≠ w.heap.size → (W5.setCell ⟨w.heap.size, 2, none⟩ (.slice (some ⟨w3.heap.size + 1 + 1 + 1, 0, none⟩) 1 1)).heap[k]? = W5.heap[k]? := fun k hk => Below.heap_setCell _ _ _ _ hk
  have hsize : (W5.setCell ⟨w.heap.size, 2, none⟩ (.slice (some ⟨w3.heap.size + 1 + 1 + 1, 0, none⟩) 1 1)).heap.size = W5.heap.size := by simp
  have hO6 := hO.kept (w' := W5.setCell ⟨w.heap.size, 2, none⟩ (.slice (some ⟨w3.heap.size + 1 + 1 + 1, 0, none⟩) 1 1)) (fun k hk => hb6.block k hk)
  refine ⟨hb6, ⟨hsz, by omega⟩, blk_set ((h5 _ (by omega)).trans n0) _, (hset _ (by omega)).trans ((h5 _ (by omega)).trans n1), (hset _ (by omega)).trans h3, ?_, hO6, hE.kept (fun k hk => hb6.block k hk), hA.kept (fun k hk => hb6.block k hk)⟩
  exact dirA_is ((hset _ (by omega)).trans h0) ((hset _ (by omega)).trans h1) ((hset _ (by omega)).trans h2) (hO6.mono (fun k hk => by omega)) (by omega) (by omega) (by omega)
theorem Laid.kept {w W W' : World} {L : Nat} {env : Pairs} {args : List (List UInt8)} {other : Nd} {ev av iv : Value} {ocl : List Value} (h : Laid w W L env args other ev av iv ocl) (hb : Below W.heap.size W W') : Laid w W' L env args other ev av iv ocl := by
  have hlt := h.lt
  have hs := hb.size
  exact ⟨h.below.trans (hb.mono (by omega)), ⟨hlt.1, by omega⟩, below_blk hb h.world, below_blk hb h.node, below_blk hb h.row, h.dir.kept (fun k hk => hb.block k (by omega)), h.oth.kept (fun k hk => hb.block k (by omega)),
    h.env.kept (fun k hk => hb.block k (by omega)), h.args.kept (fun k hk => hb.block k (by omega))⟩
/-- The first run's world. -/
theorem Laid.wd1 {w W : World} {L : Nat} {env : Pairs} {args : List (List UInt8)} {other : Nd} {ev av : Value} {ocl : List Value} (h : Laid w W L env args other ev av (.slice (some ⟨L + 1 + 1 + 1, 0, none⟩) 1 1) ocl) (he : env.length ≤ 200) (ha : args.length ≤ 200) :
    WdIs W.heap.size ⟨env, args, [(pIn, dirA other)]⟩ ev av (.slice (some ⟨L + 1 + 1 + 1, 0, none⟩) 1 1) W := by
  have hlt := h.lt
  refine wdis_gen (B1 := w.heap.size) (F := fun k => k < W.heap.size) (G := fun k => k < L + 4 ∧ k ≠ w.heap.size) (cells := [.string ⟨#[47, 105, 110]⟩, .int .i64 2, .bool false, .slice none 0 0, .slice (some ⟨L, 0, none⟩) 2 2, .slice (some ⟨L + 1 + 1, 0, none⟩) 2 2]) (by omega) h.env h.args he ha ⟨by simp [maxLen], _, _, rfl, fun _ => ⟨_, 0, rfl, by omega, rfl, fun j x hx => cells_at h.row j x hx⟩⟩ (fun k hk => hk) ⟨_, [], rfl, h.dir, rfl⟩ (fun k hk => by omega) ?_
  intro x hx
  simp only [List.mem_singleton] at hx
  subst hx
  show pIn.length ≤ _
  simp [pIn]
/-- The second run's world: the two inputs lie in a row of the call's own. -/
theorem Laid.wd2 {w W w8 : World} {L M : Nat} {env : Pairs} {args : List (List UInt8)} {other : Nd} {ev av iv v : Value} {ocl : List Value} {nm : List UInt8} (h : Laid w W L env args other ev av iv ocl) (he : env.length ≤ 200) (ha : args.length ≤ 200) (hnm : nm.length ≤ 281474976710656)
    (hM : W.heap.size ≤ M) (hk : ∀ k, k < W.heap.size → w8.heap[k]? = W.heap[k]?) (hs : W.heap.size ≤ w8.heap.size)
    (hown : w8.ownsRow M 43 6 v 2 ((.string (bs nm) :: ocl) ++ [.string ⟨#[47, 105, 110]⟩, .int .i64 2, .bool false, .slice none 0 0, .slice (some ⟨L, 0, none⟩) 2 2, .slice (some ⟨L + 1 + 1, 0, none⟩) 2 2])) :
    WdIs (w8.setCell ⟨w.heap.size, 2, none⟩ v).heap.size ⟨env, args, [(nm, other), (pIn, dirA other)]⟩ ev av v (w8.setCell ⟨w.heap.size, 2, none⟩ v) := by
  have hlt := h.lt
  have hset : ∀ k, k ≠ w.heap.size → (w8.setCell ⟨w.heap.size, 2, none⟩ v).heap[k]? = w8.heap[k]? := fun k hk => Below.heap_setCell _ _ _ _ hk
  have hsize : (w8.setCell ⟨w.heap.size, 2, none⟩ v).heap.size = w8.heap.size := by simp
  have hk2 : ∀ k, k < W.heap.size → k ≠ w.heap.size → (w8.setCell ⟨w.heap.size, 2, none⟩ v).heap[k]? = W.heap[k]? := fun k h1 h2 => (hset k h2).trans (hk k h1)
  have hsl := (slice_of_own hown (by simp [maxLen])).kept (w' := w8.setCell ⟨w.heap.size, 2, none⟩ v) (fun k hk => hset k (by omega))
  refine wdis_gen (B1 := w.heap.size) (F := fun k => M ≤ k ∧ k < w8.heap.size) (G := fun k => k < L + 4 ∧ k ≠ w.heap.size) (cells := (.string (bs nm) :: ocl) ++ [.string ⟨#[47, 105, 110]⟩, .int .i64 2, .bool false, .slice none 0 0, .slice (some ⟨L, 0, none⟩) 2 2, .slice (some ⟨L + 1 + 1, 0, none⟩) 2 2])
    (by omega) (h.env.kept (fun k hk => hk2 k (by omega) (by omega))) (h.args.kept (fun k hk => hk2 k (by omega) (by omega))) he ha hsl (fun k hk => by omega)
    ⟨ocl, [.string ⟨#[47, 105, 110]⟩, .int .i64 2, .bool false, .slice none 0 0, .slice (some ⟨L, 0, none⟩) 2 2, .slice (some ⟨L + 1 + 1, 0, none⟩) 2 2], rfl, (h.oth.kept (fun k hk => hk2 k (by omega) (by omega))).mono (fun k hk => by omega), ⟨_, [], rfl, h.dir.kept (fun k hk => hk2 k (by omega) hk.2), rfl⟩⟩ (fun k hk => by omega) ?_
  intro x hx
  simp only [List.mem_cons, List.not_mem_nil, or_false] at hx
  rcases hx with rfl | rfl
  · exact hnm
  · show pIn.length ≤ _
    simp [pIn]
theorem leaf_data {F : Nat → Prop} {w : World} {y : List UInt8} {a b dv nv sv : Value} (h : NdIs F w (leafNd y) [a, b, dv, nv, sv]) : SliceIs F 1 dv y.length (byteCells y) w := by
  simp only [leafNd, NdIs] at h
  obtain ⟨dv', nv', sv', hq, hD, _⟩ := h
  injection hq with _ hq
  injection hq with _ hq
  injection hq with hq _
  rw [hq]
  exact hD
theorem outV_look {F : Nat → Prop} {w : World} {dA nA sA : Option Addr} {dc nc sc : Nat} (h : NdIs F w outV [.int .i64 2, .bool false, .slice dA 0 dc, .slice nA 2 nc, .slice sA 2 sc]) :
    ∃ g o f0 c0 f1 c1, sA = some ⟨g, o, none⟩ ∧ w.cell? ⟨g, o + 2, none⟩ = some (.slice f0 4 c0) ∧ w.cell? ⟨g, o + 5 + 2, none⟩ = some (.slice f1 1 c1) ∧
      (convert 29 9 (.slice f0 4 c0)).run Tryz.prog w = .ok (.string ⟨#[97, 10, 98, 10]⟩) w ∧ (convert 29 9 (.slice f1 1 c1)).run Tryz.prog w = .ok (.string ⟨#[120]⟩) w := by
  obtain ⟨_, _, _, _, _, _, hcl, _, _, cs, hS, hNs⟩ := h.cells
  injection hcl with _ hcl
  injection hcl with _ hcl
  injection hcl with _ hcl
  injection hcl with _ hcl
  injection hcl with hcl _
  injection hcl with h1 h2 h3
  subst h1 h3
  obtain ⟨g, o, fD, fc, fN, fnc, fS, fsc, rfl, _, _, he0, p0, p1, p2, p3, p4⟩ := NdIs.elem hS hNs 0 (by simp [outV, Nd.nodes])
  obtain ⟨g', o', hD, hc, hN, hnc, hSS, hsc, heq, _, _, he1, r0, r1, r2, r3, r4⟩ := NdIs.elem hS hNs 1 (by simp [outV, Nd.nodes])
  injection heq with heq
  injection heq with e1 e2 _
  subst e1 e2
  have he0' : NdIs F w (leafNd ab4) [.int .i64 1, .bool false, .slice fD 4 fc, .slice fN 0 fnc, .slice fS 0 fsc] := he0
  have he1' : NdIs F w (leafNd [120]) [.int .i64 1, .bool false, .slice hD 1 hc, .slice hN 0 hnc, .slice hSS 0 hsc] := he1
  exact ⟨g, o, fD, fc, hD, hc, rfl, p2, r2, conv_bytes (leaf_data he0'), conv_bytes (leaf_data he1')⟩
end Go.Proofs.YtejpkjcjoengbaaGreatDoor
