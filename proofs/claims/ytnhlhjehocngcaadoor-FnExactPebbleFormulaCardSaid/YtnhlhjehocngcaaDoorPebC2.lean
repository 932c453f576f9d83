/- The program's PebbleClasses. Conditions: the structure is valid, the number of pebbles is allowed. -/
import Derived.Test.YtnhlhjehocngcaaDoorPebCl
import Derived.Test.YtnhlhjehocngcaaDoorPebP
import Derived.Test.YtnhlhjehocngcaaDoorPebTw
import Derived.Test.YtnhlhjehocngcaaDoorPebNw
import Derived.Test.YtnhlhjehocngcaaDoorBeside
namespace Go.Proofs.YtnhlhjehocngcaaDoor
open Go.RowKit
set_option linter.unusedVariables false
set_option maxRecDepth 100000

/-- Pebbles that lie beside but for the first. -/
def putI (k x : Nat) : List Int := (List.replicate k (-1)).set 0 (x : Int)
theorem beside_rdy (n k : Nat) : Rdy n n (List.replicate k (-1)) (List.replicate k (-1)) :=
  ⟨rfl, fun x hx => by rw [List.eq_of_mem_replicate hx]; omega, fun x hx => by rw [List.eq_of_mem_replicate hx]; omega, fun j => Iff.rfl⟩
theorem putI_rdy {n k x y : Nat} (hx : x < n) (hy : y < n) : Rdy n n (putI k x) (putI k y) := (beside_rdy n k).put 0 hx hy
theorem OwnI.setI {B g n cap : Nat} {w : World} {L : List Int} (h : OwnI B w (.slice (some ⟨g, 0, none⟩) n cap) L) (hn : L.length = n) (j : Nat) (z : Int) : OwnI B (w.setCell ⟨g, j, none⟩ (.int .i64 z)) (.slice (some ⟨g, 0, none⟩) n cap) (L.set j z) := by
  have h1 := h.own
  rw [hn] at h1
  refine ⟨?_, by simp, by simpa [World.setCell] using h.low⟩
  rw [List.length_set, List.map_set, hn]
  exact (h1.stored j (.int .i64 z)).1
theorem OwnI.frozen {B g n cap : Nat} {w : World} {L : List Int} (h : OwnI B w (.slice (some ⟨g, 0, none⟩) n cap) L) (hn : L.length = n) (j : Nat) : w.frozen? ⟨g, j, none⟩ = false := by
  have h1 := h.own
  rw [hn] at h1
  exact h1.frozenAt j
/-- Two lists of the call's own. -/
structure Pr2 (w : World) (va vb : Value) (A B : List Int) (wr : World) : Prop where
  a : OwnI w.heap.size wr va A
  b : OwnI w.heap.size wr vb B
  ne : va.ownBlock ≠ vb.ownBlock
  old : Below w.heap.size w wr
theorem Pr2.swap {w wr : World} {va vb : Value} {A B : List Int} (h : Pr2 w va vb A B wr) : Pr2 w vb va B A wr := ⟨h.b, h.a, fun e => h.ne e.symm, h.old⟩
theorem Pr2.setA {w wr : World} {g n cap : Nat} {vb : Value} {A B : List Int} (h : Pr2 w (.slice (some ⟨g, 0, none⟩) n cap) vb A B wr) (hn : A.length = n) (j : Nat) (z : Int) : Pr2 w (.slice (some ⟨g, 0, none⟩) n cap) vb (A.set j z) B (wr.setCell ⟨g, j, none⟩ (.int .i64 z)) :=
  ⟨h.a.setI hn j z, h.b.kept (fun k hk _ => Below.heap_setCell _ _ _ _ (fun e => h.ne (by rw [hk, e]; rfl))) (by simp), h.ne, h.old.setCell (h.a.own.lt g rfl).1 _⟩
set_option maxHeartbeats 1000000 in
theorem pebCl_any (p n k : Nat) (S R : ByteArray) (F W : List Bool) (x y b1 b2 : Nat) (w : World) (hQ : PebQ w p n S R n S R k F W) (c1 : w.cell? ⟨b1, 0, none⟩ = some (.int .i64 (k : Int))) (c2 : w.cell? ⟨b2, 0, none⟩ = some (.pointer (some ⟨p, 0, none⟩)))
    (hn1 : 1 ≤ n) (hn : n ≤ 8) (hk1 : 1 ≤ k) (hk3 : k ≤ 3) (hx : x < n) (hy : y < n) (hW : W.length = (n * n + 1) ^ k) :
    Calls Tryd.prog 40 #[.int .i64 (x : Int), .int .i64 (y : Int), .pointer (some ⟨b1, 0, none⟩), .pointer (some ⟨b2, 0, none⟩)] w fun e w' => e = .returned (.bool (W.getD (stP (n * n + 1) n (putI k x) (putI k y)) false)) ∧ Below w.heap.size w w' := by
  have HQ := Lib.hid hQ
  have HBE := Lib.hid (fun w => besides_any k (by omega) w)
  have l1 := World.block_lt_of_cell? _ _ c1
  have l2 := World.block_lt_of_cell? _ _ c2
  obtain ⟨RES, hres⟩ : ∃ r, W.getD (stP (n * n + 1) n (putI k x) (putI k y)) false = r := ⟨_, rfl⟩
  have HRES := Lib.hid hres
  rw [hres]
  clear hQ hres
  go_enter Tryd.func40, Tryd.ntmps40
  go_wp2_with fail
  go_region_held3 (fun w' => w'.cell? ⟨b1, 0, none⟩ = some (.int .i64 (k : Int)))
    (first | exact (HP2.out.old.cell (p := ⟨b1, 0, none⟩) l1).trans c1 | exact (HP1.out.2.cell (p := ⟨b1, 0, none⟩) l1).trans c1 | go_keep)
    (first
    | (go_at_call 37; refine (HBE.out _).mono ?_; rintro e w2 ⟨v2, rfl, ho2, hb2⟩; have HP2 : Hid (Pr2 w v1 v2 (List.replicate k (-1)) (List.replicate k (-1)) w2) := ⟨HP1.out.1.below hb2, ho2.mono HP1.out.2.size, (by obtain ⟨j, hj, j1, j2⟩ := HP1.out.1.block; obtain ⟨i, hi, i1, i2⟩ := ho2.block; rw [hj, hi]; intro e; injection e with e; omega), HP1.out.2.trans (hb2.mono HP1.out.2.size)⟩; clear ho2 hb2)
    | (go_at_call 37; refine (HBE.out _).mono ?_; rintro e w1 ⟨v1, rfl, ho1, hb1⟩; have HP1 : Hid (OwnI w.heap.size w1 v1 (List.replicate k (-1)) ∧ Below w.heap.size w w1) := ⟨ho1, (Below.refl _ _).drew.trans hb1⟩; clear ho1 hb1))
  all_goals
    obtain ⟨g1, q1, e1, m1, m2, m3, m4, m5⟩ := HP2.out.a.cells
    obtain ⟨g2, q2, e2, n1, n2, n3, n4, n5⟩ := HP2.out.b.cells
    rw [List.length_replicate] at e1 e2 m3 n3 m5 n5
    subst e1
    subst e2
    have p0 := m5 0 (by omega)
    have p0f := HP2.out.a.frozen (List.length_replicate ..) 0
    have HP3 := Lib.hid (HP2.out.setA (List.length_replicate ..) 0 (x : Int))
    have p1 := ((Below.heap_setCell w2 ⟨g1, 0, none⟩ (.int .i64 (x : Int)) g2 (fun e => HP2.out.ne (by rw [show g2 = g1 from e]; rfl))))
    have p2 := (World.cell?_of_block (a := ⟨g2, 0, none⟩) p1).trans (n5 0 (by omega))
    have p2f := HP3.out.b.frozen (List.length_replicate ..) 0
    have HP4 := Lib.hid (HP3.out.swap.setA (List.length_replicate ..) 0 (y : Int)).swap
    have HP5 : Hid (Pr2 w (.slice (some ⟨g1, 0, none⟩) k q1) (.slice (some ⟨g2, 0, none⟩) k q2) (putI k x) (putI k y) ((w2.setCell ⟨g1, 0, none⟩ (.int .i64 (x : Int))).setCell ⟨g2, 0, none⟩ (.int .i64 (y : Int)))) := HP4.out
    have hkI : (0 : Int) < (k : Int) := by omega
    clear HP1 HP3 HP4 p1 m5 n5
    generalize (List.replicate k (-1 : Int)).getD 0 0 = z0 at *
    go_upto_region 3 with fail
    obtain ⟨W5, hW5⟩ : ∃ W5, (w2.setCell ⟨g1, 0, none⟩ (.int .i64 (x : Int))).setCell ⟨g2, 0, none⟩ (.int .i64 (y : Int)) = W5 := ⟨_, rfl⟩
    rw [hW5] at HP5 ⊢
    clear hW5 p0 p0f p2 p2f
    obtain ⟨fv, wv, hG, hf, hb, hfp, hwp⟩ := HQ.out.below HP5.out.old
    have d9 := hG.cells.2.2.2.2.2.1
    have hc2 := (HP5.out.old.cell (p := ⟨b2, 0, none⟩) l2).trans c2
    have hplt := hG.lt
    have hst := stP_lt (putI_rdy (k := k) hx hy)
    have hlen : (putI k x).length = k := by unfold putI; rw [List.length_set, List.length_replicate]
    have hlen2 : (putI k y).length = k := by unfold putI; rw [List.length_set, List.length_replicate]
    rw [hlen, ← hW] at hst
    obtain ⟨wg, wc, rfl, w1', w2', w3', w4'⟩ := hb
    have dst := w4' _ hst
    rw [HRES.out] at dst
    have j1 := fun (sc : Since W5) => stateOf_any p n n k S R S R fv (.slice (some ⟨wg, 0, none⟩) W.length wc) _ _ (putI k x) (putI k y) sc.w (hG.below sc.below) (HP5.out.a.ints.below sc.below) (HP5.out.b.ints.below sc.below) (putI_rdy hx hy) hlen hk3 hn hn
    generalize stP (n * n + 1) n (putI k x) (putI k y) = st at *
    have J1 := Lib.hid j1
    have f9 := fun s => Since.cell d9 s
    have f2 := fun s => Since.cell hc2 s
    have fs := fun s => Since.cell dst s
    have hstI : (st : Int) < (W.length : Int) := by omega
    clear hG hf w4' j1 c1 c2
    go_wp2_with fail
    refine wp_region_since (by kernel_rfl) (by kernel_rfl) ?_
    repeat (go_big_quiet_step ((with_reducible exact Since.call (J1.out _))))
    refine wpQuiet_nil ?_
    intro w9 hb9
    have HO := Lib.hid (HP5.out.old.trans (hb9.mono HP5.out.old.size))
    clear hb9 f9 f2 fs
    go_wp2_with fail
    go_ret
    exact ⟨rfl, HO.out⟩
theorem boxed_cell {W : World} {b : Nat} {x : Value} {t : TypeId} (h : W.heap[b]? = some (.cells #[x] t (0, 0))) : W.cell? ⟨b, 0, none⟩ = some x ∧ W.frozen? ⟨b, 0, none⟩ = false ∧ b < W.heap.size := by
  refine ⟨?_, ?_, (Array.getElem?_eq_some_iff.1 h).1⟩
  · unfold World.cell?; rw [h]; rfl
  · unfold World.frozen?; rw [h]; rfl
theorem put_len (k x : Nat) : (putI k x).length = k := by unfold putI; rw [List.length_set, List.length_replicate]
theorem put_lev (a : Gs.St) (n k t x y : Nat) (hn : 0 < n) (hx : x < n) (hy : y < n) : (lev n n k (fitL a a n n k) t).getD (stP (n * n + 1) n (putI k x) (putI k y)) false = pwB a a n n t (putI k x) (putI k y) := by
  have := lev_at (a := a) (b := a) hn t (putI_rdy (k := k) hx hy)
  rw [put_len] at this
  exact this
theorem maxU_le {L : List Nat} {b : Nat} (h : ∀ z ∈ L, z ≤ b) : ∀ j, maxU L j ≤ b
  | 0 => by
    unfold maxU
    rw [List.getD_eq_getElem?_getD]
    by_cases h0 : 0 < L.length
    · rw [List.getElem?_eq_getElem h0]; exact h _ (List.getElem_mem _)
    · rw [List.getElem?_eq_none (by omega)]; exact Nat.zero_le _
  | j + 1 => by
    have h1 := maxU_le h j
    have h2 : L.getD (j + 1) 0 ≤ b := by
      rw [List.getD_eq_getElem?_getD]
      by_cases h0 : j + 1 < L.length
      · rw [List.getElem?_eq_getElem h0]; exact h _ (List.getElem_mem _)
      · rw [List.getElem?_eq_none (by omega)]; exact Nat.zero_le _
    unfold maxU
    omega
/-- How many are won: read in memory. -/
def winW (w : World) (p len : Nat) : Nat := match w.cell? ⟨p, 9, none⟩ with
  | some (.slice (some a) _ _) => cntT ((List.range len).map fun j => match w.cell? ⟨a.block, j, none⟩ with | some (.bool b) => b | _ => false)
  | _ => 0
theorem winW_is {w : World} {p n m k : Nat} {S R S2 R2 : ByteArray} {F W : List Bool} (h : PebQ w p n S R m S2 R2 k F W) : winW w p W.length = cntT W := by
  obtain ⟨fv, wv, hG, hf, ⟨g, cap, rfl, h1, h2, h3, h4⟩, hfp, hwp⟩ := h
  unfold winW
  rw [hG.cells.2.2.2.2.2.1]
  show cntT _ = _
  congr 1
  apply List.ext_getElem
  · simp
  · intro j h5 h6
    simp only [List.getElem_map, List.getElem_range]
    rw [h4 j h6]
    simp [h6]
theorem turn_less {n m k : Nat} {F : List Bool} {t : Nat} (h : turnU n m k F (lev n m k F t) ≠ lev n m k F t) : cntT (lev n m k F (t + 1)) < cntT (lev n m k F t) :=
  cntT_lt (by rw [lev_len, lev_len]) (lev_le n m k F t) h
theorem beside_ready {n k : Nat} {S R : ByteArray} (hv : validB n S R = true) (h1 : 1 ≤ k) (h3 : k ≤ 3) : pebRdB n S R (List.replicate k (-1)) n S R (List.replicate k (-1)) = true := by
  have ha : pebA n (List.replicate k (-1)) = true := by
    unfold pebA
    rw [List.all_eq_true]
    intro x hx
    rw [List.eq_of_mem_replicate hx]
    unfold pebR
    simp
    omega
  have hs : sideB (List.replicate k (-1)) (List.replicate k (-1)) = true := by
    unfold sideB
    rw [List.all_eq_true]
    intro j _
    simp
  unfold pebRdB pebsB
  rw [hv, ha, hs]
  simp
  omega
/-- What PebbleClasses keeps: its boxes. -/
structure Pc (w : World) (n k : Nat) (S R : ByteArray) (wr : World) : Prop where
  a : SBlk wr w.heap.size n S R
  c : wr.heap[w.heap.size + 1]? = some (.cells #[.int .i64 (k : Int)] 3 (0, 0))
  old : Below w.heap.size w wr
section
variable {w wr w' : World} {n k : Nat} {S R : ByteArray}
theorem Pc.lt (h : Pc w n k S R wr) : w.heap.size + 1 < wr.heap.size := (Array.getElem?_eq_some_iff.1 h.c).1
theorem Pc.below (h : Pc w n k S R wr) (hb : Below wr.heap.size wr w') : Pc w n k S R w' :=
  ⟨h.a.below hb h.a.cells.2.2.2.2.2.2, (hb.block _ h.lt).trans h.c, h.old.trans (hb.mono h.old.size)⟩
theorem Pc.cells (h : Pc w n k S R wr) : wr.cell? ⟨w.heap.size, 0, none⟩ = some (.int .i64 (n : Int)) ∧ wr.cell? ⟨w.heap.size, 1, none⟩ = some (.string S) ∧ wr.cell? ⟨w.heap.size, 2, none⟩ = some (.string R) ∧ wr.cell? ⟨w.heap.size + 1, 0, none⟩ = some (.int .i64 (k : Int)) :=
  ⟨h.a.cells.1, h.a.cells.2.1, h.a.cells.2.2.1, (boxed_cell h.c).1⟩
theorem Pc.off {p : Nat} (h : Pc w n k S R wr) (ho : Off (fun b => b = p) wr w') (hp : w.heap.size + 2 ≤ p) : Pc w n k S R w' :=
  ⟨(ho.block _ h.a.cells.2.2.2.2.2.2 (fun e => by omega)).trans h.a, (ho.block _ h.lt (fun e => by omega)).trans h.c, ⟨ho.os.trans h.old.os, ho.tape.trans h.old.tape, ho.output.trans h.old.output, Nat.le_trans h.old.size ho.size, fun b hb => (ho.block b (Nat.lt_of_lt_of_le hb h.old.size) (fun e => by omega)).trans (h.old.block b hb)⟩⟩
theorem Pc.first (w : World) (n k : Nat) (S R : ByteArray) : Pc w n k S R ((boxS w n S R).alloc (.cells #[.int .i64 (k : Int)] 3)) := by
  have hb : Below (boxS w n S R).heap.size (boxS w n S R) ((boxS w n S R).alloc (.cells #[.int .i64 (k : Int)] 3)) := (Below.refl _ _).alloc (Nat.le_refl _) _
  refine ⟨(boxS_SBlk w n S R).below hb (by rw [boxS_size]; omega), ?_, (boxS_below w n S R).trans (hb.mono (by rw [boxS_size]; omega))⟩
  have := heap_alloc_new (boxS w n S R) (.cells #[.int .i64 (k : Int)] 3)
  rw [boxS_size] at this
  exact this
end
/-- A box of one value. -/
structure BoxAt (w : World) (b : Nat) (x : Value) (t : TypeId) : Prop where
  blk : w.heap[b]? = some (.cells #[x] t (0, 0))
theorem BoxAt.lt {w : World} {b : Nat} {x : Value} {t : TypeId} (h : BoxAt w b x t) : b < w.heap.size := (boxed_cell h.blk).2.2
theorem BoxAt.cell {w : World} {b : Nat} {x : Value} {t : TypeId} (h : BoxAt w b x t) : w.cell? ⟨b, 0, none⟩ = some x ∧ w.frozen? ⟨b, 0, none⟩ = false := ⟨(boxed_cell h.blk).1, (boxed_cell h.blk).2.1⟩
theorem BoxAt.below {w w' : World} {b : Nat} {x : Value} {t : TypeId} (h : BoxAt w b x t) (hb : Below w.heap.size w w') : BoxAt w' b x t := ⟨(hb.block b h.lt).trans h.blk⟩
theorem BoxAt.new (w : World) (x : Value) (t : TypeId) : BoxAt (w.alloc (.cells #[x] t)) w.heap.size x t := ⟨heap_alloc_new w _⟩
/-- What PebbleClasses returns. -/
def PcP (w : World) (n k : Nat) (a : Gs.St) (e : Ending) (w' : World) : Prop := ∃ t, e = .returned (.int .i64 (((maxU (clsN (fun y x => pwB a a n n t (putI k y) (putI k x)) n).1 (n - 1) : Nat) : Int) + 1)) ∧ Below w.heap.size w w'
/-- What the loop of PebbleClasses keeps. -/
structure PcQ (w : World) (n k : Nat) (S R : ByteArray) (p bx : Nat) (F W : List Bool) (wr : World) : Prop where
  c : Pc w n k S R wr
  q : PebQ wr p n S R n S R k F W
  x : BoxAt wr bx (.pointer (some ⟨p, 0, none⟩)) 55
  ne : bx ≠ p
  pl : w.heap.size + 2 ≤ p
theorem PebS.low {B B' : Nat} {w : World} {p n m k : Nat} {S R S2 R2 : ByteArray} {F W : List Bool} (h : PebS B w p n S R m S2 R2 k F W) (hB : B' ≤ B) : PebS B' w p n S R m S2 R2 k F W := by
  obtain ⟨fv, wv, h1, h2, h3, h4, h5, h6, h7⟩ := h
  exact ⟨fv, wv, h1, h2, h3, h4, h5, fun j hj => Nat.le_trans hB (h6 j hj), fun j hj => Nat.le_trans hB (h7 j hj)⟩
theorem PcQ.turn {w wr w' : World} {n k : Nat} {S R : ByteArray} {p bx : Nat} {F W W' : List Bool} (h : PcQ w n k S R p bx F W wr) (hq : PebQ w' p n S R n S R k F W') (ho : Off (fun b => b = p) wr w') : PcQ w n k S R p bx F W' w' :=
  ⟨h.c.off ho h.pl, hq, ⟨(ho.block _ h.x.lt h.ne).trans h.x.blk⟩, h.ne, h.pl⟩
theorem PcQ.below {w wr w' : World} {n k : Nat} {S R : ByteArray} {p bx : Nat} {F W : List Bool} (h : PcQ w n k S R p bx F W wr) (hb : Below wr.heap.size wr w') : PcQ w n k S R p bx F W w' :=
  ⟨h.c.below hb, h.q.below hb, h.x.below hb, h.ne, h.pl⟩
theorem PcQ.late {w w1 w4 : World} {n k : Nat} {S R : ByteArray} {p : Nat} {F W : List Bool} (h1 : Pc w n k S R w1) (hq : PebQ w4 p n S R n S R k F W) (hb : Below w1.heap.size w1 w4) (hp : w1.heap.size ≤ p) :
    PcQ w n k S R p w4.heap.size F W (w4.alloc (.cells #[.pointer (some ⟨p, 0, none⟩)] 55)) := by
  have ha : Below w4.heap.size w4 (w4.alloc (.cells #[.pointer (some ⟨p, 0, none⟩)] 55)) := (Below.refl _ _).alloc (Nat.le_refl _) _
  have hl : p < w4.heap.size := by
    obtain ⟨fv, wv, hG, _⟩ := hq
    exact hG.lt
  have := h1.lt
  exact ⟨h1.below (hb.trans (ha.mono hb.size)), hq.below ha, BoxAt.new _ _ _, by omega, by omega⟩
theorem PcQ.early {w w1 w4 : World} {n k : Nat} {S R : ByteArray} {p bx : Nat} {F W : List Bool} (h1 : Pc w n k S R w1) (hq : PebS (bx + 1) w4 p n S R n S R k F W) (hb : Below w1.heap.size w1 w4) (hx : BoxAt w4 bx (.pointer none) 55) (hl : w1.heap.size ≤ bx) (hp : bx < p) :
    PcQ w n k S R p bx F W (w4.setCell ⟨bx, 0, none⟩ (.pointer (some ⟨p, 0, none⟩))) := by
  have := h1.lt
  refine ⟨h1.below (hb.setCell (by simpa using hl) _), (hq.kept (by omega) (fun j hj _ => Below.heap_setCell _ _ _ _ (by simp; omega)) (by simp)).q, ⟨?_⟩, by omega, by omega⟩
  have := hx.blk
  simp [World.setCell, Array.getElem?_modify, this]
set_option maxHeartbeats 2000000 in
theorem PebbleClasses_any (n k : Nat) (S R : ByteArray) (hv : validB n S R = true) (hk1 : 1 ≤ k) (hk3 : k ≤ 3) (w : World) :
    Calls Tryd.prog 13 #[strV n S R, .int .i64 (k : Int)] w (PcP w n k (stOf n S R)) := by
  obtain ⟨h1, h8, hS, hR, _, _⟩ := valid_is hv
  have HIS : Hid (∀ w, Calls Tryd.prog 29 #[strV n S R] w fun e w' => e = .returned (.bool true) ∧ Below w.heap.size w w') := fun w => by
    have := isStructure_any n S R w (by omega) (by rw [hR]; have := Nat.mul_le_mul h8 h8; omega)
    rw [hv] at this
    exact this
  have HBE := Lib.hid (fun w => besides_any k (by omega) w)
  have HNP : Hid (∀ w v u, IntsAt w v (List.replicate k (-1)) → IntsAt w u (List.replicate k (-1)) → Calls Tryd.prog 36 #[strV n S R, v, strV n S R, u] w (NewP w n S R n S R k)) := fun w v u hv' hu => by
    have := newPebbles_any n n S R S R (List.replicate k (-1)) (List.replicate k (-1)) v u w hv' hu (beside_ready hv hk1 hk3)
    rw [List.length_replicate] at this
    exact this
  have HTN := Lib.hid (fun p F W w hQ hF hW => turn_any p n n k S R S R F W w hQ h8 h8 h1 h1 hk3 hF hW)
  have HCL := Lib.hid (fun p F W x y b1 b2 w hQ c1 c2 hx hy hW => pebCl_any p n k S R F W x y b1 b2 w hQ c1 c2 h1 h8 hk1 hk3 hx hy hW)
  have HCB := Lib.hid (fun k c f w hk hf => classesBy_any n h8 k c f w hk hf)
  have HMX := Lib.hid (fun v L w hv h0 => max_any v L w hv h0)
  have HP0 := Lib.hid (Pc.first w n k S R)
  obtain ⟨W, hW⟩ : ∃ W, (boxS w n S R).alloc (.cells #[.int .i64 (k : Int)] 3) = W := ⟨_, rfl⟩
  rw [hW] at HP0
  unfold boxS at hW
  have HW := Lib.hid hW
  clear hW hS hR hv
  have hk3I : ¬ (3 : Int) < (k : Int) := by omega
  have hk1I : ¬ (k : Int) < 1 := by omega
  have hk3B : decide ((3 : Int) < (k : Int)) = false := decide_eq_false hk3I
  have hk1B : decide ((k : Int) < 1) = false := decide_eq_false hk1I
  unfold strV at HIS HNP
  unfold strV
  go_enter Tryd.func13, Tryd.ntmps13
  go_upto_region 1 with fail
  rw [HW.out]
  obtain ⟨s0, s1, s2, _, _, _, hl⟩ := HP0.out.a.cells
  obtain ⟨sc, _⟩ := boxed_cell HP0.out.c
  go_wp2_with fail
  refine (HIS.out _).mono ?_; rintro e w1 ⟨rfl, hb1⟩
  have HP1 := Lib.hid (HP0.out.below hb1)
  clear s0 s1 s2 hl sc hb1 HP0
  obtain ⟨s0, s1, s2, _, _, _, hl⟩ := HP1.out.a.cells
  obtain ⟨sc, _⟩ := boxed_cell HP1.out.c
  go_upto_region 3 with fail
  have hl1 := HP1.out.lt
  go_region_held3 (fun w' => w'.cell? ⟨w.heap.size, 0, none⟩ = some (.int .i64 (n : Int)) ∧ w'.cell? ⟨w.heap.size, 1, none⟩ = some (.string S) ∧ w'.cell? ⟨w.heap.size, 2, none⟩ = some (.string R) ∧ w'.cell? ⟨w.heap.size + 1, 0, none⟩ = some (.int .i64 (k : Int)))
    (first | exact (HP1.out.below (HP4.out.2.1.alloc HP4.out.2.1.size _)).cells | exact (HP1.out.below HP4.out.2.1).cells | exact (HP1.out.below (HP4.out.2.1.setCell (by first | omega | (have := HP2.out.2.size; have := HP3.out.2.2.size; show _ ≤ _; simp; try omega)) _)).cells | exact (HP1.out.below HP3.out.2.2).cells | exact (HP1.out.below HP2.out.2).cells | go_keep)
    (first
    | (go_at_call 36; refine (HNP.out _ _ _ ?_ ?_).mono ?_; (first | exact HP3.out.1.ints | exact HP3.out.2.1.ints | exact (HP3.out.1.below ((Below.refl _ _).alloc (Nat.le_refl _) _)).ints | exact (HP3.out.2.1.below ((Below.refl _ _).alloc (Nat.le_refl _) _)).ints); (first | exact HP3.out.1.ints | exact HP3.out.2.1.ints | exact (HP3.out.1.below ((Below.refl _ _).alloc (Nat.le_refl _) _)).ints | exact (HP3.out.2.1.below ((Below.refl _ _).alloc (Nat.le_refl _) _)).ints); rintro e w4 ⟨p, rfl, hq4, hb4, hp4⟩; have HP4 : Hid (PebQ w4 p n S R n S R k (fitL (stOf n S R) (stOf n S R) n n k) (fitL (stOf n S R) (stOf n S R) n n k) ∧ Below w1.heap.size w1 w4 ∧ w1.heap.size ≤ p) := ⟨hq4.q, (by first | exact HP3.out.2.2.trans (hb4.mono HP3.out.2.2.size) | exact (HP3.out.2.2.alloc HP3.out.2.2.size _).trans (hb4.mono (by have := HP3.out.2.2.size; simp; omega))), (by have := HP3.out.2.2.size; first | omega | (simp at hp4; omega))⟩; (first | have HX4 : Hid (BoxAt w4 w3.heap.size (.pointer none) 55 ∧ w3.heap.size < p ∧ PebS (w3.heap.size + 1) w4 p n S R n S R k (fitL (stOf n S R) (stOf n S R) n n k) (fitL (stOf n S R) (stOf n S R) n n k)) := ⟨(BoxAt.new w3 _ _).below hb4, (by simp at hp4; omega), (by simpa using hq4)⟩ | have HX4 : Hid (BoxAt w4 w2.heap.size (.pointer none) 55 ∧ w2.heap.size < p ∧ PebS (w2.heap.size + 1) w4 p n S R n S R k (fitL (stOf n S R) (stOf n S R) n n k) (fitL (stOf n S R) (stOf n S R) n n k)) := ⟨HX3.out.below hb4, Nat.lt_of_lt_of_le HX3.out.lt hp4, hq4.low HX3.out.lt⟩ | have HX4 : Hid (BoxAt w4 w1.heap.size (.pointer none) 55 ∧ w1.heap.size < p ∧ PebS (w1.heap.size + 1) w4 p n S R n S R k (fitL (stOf n S R) (stOf n S R) n n k) (fitL (stOf n S R) (stOf n S R) n n k)) := ⟨HX3.out.below hb4, Nat.lt_of_lt_of_le HX3.out.lt hp4, hq4.low HX3.out.lt⟩ | skip); (first | obtain ⟨x0, x1⟩ := HX4.out.1.cell | skip); clear hq4 hb4 hp4)
    | (go_at_call 37; refine (HBE.out _).mono ?_; rintro e w3 ⟨v2, rfl, ho2, hb2⟩; have HP3 : Hid (OwnI w1.heap.size w3 v1 (List.replicate k (-1)) ∧ OwnI w1.heap.size w3 v2 (List.replicate k (-1)) ∧ Below w1.heap.size w1 w3) := (by first | exact ⟨HP2.out.1.below hb2, ho2.mono HP2.out.2.size, HP2.out.2.trans (hb2.mono HP2.out.2.size)⟩ | exact ⟨(HP2.out.1.below ((Below.refl _ _).alloc (Nat.le_refl _) _)).below hb2, ho2.mono (by have := HP2.out.2.size; simp; omega), (HP2.out.2.alloc HP2.out.2.size _).trans (hb2.mono (by have := HP2.out.2.size; simp; omega))⟩); (first | have HX3 : Hid (BoxAt w3 w2.heap.size (.pointer none) 55) := (BoxAt.new w2 _ _).below hb2 | have HX3 : Hid (BoxAt w3 w1.heap.size (.pointer none) 55) := HX2.out.below hb2 | skip); clear ho2 hb2)
    | (go_at_call 37; refine (HBE.out _).mono ?_; rintro e w2 ⟨v1, rfl, ho1, hb1⟩; have HP2 : Hid (OwnI w1.heap.size w2 v1 (List.replicate k (-1)) ∧ Below w1.heap.size w1 w2) := (by first | exact ⟨ho1, (Below.refl _ _).drew.trans hb1⟩ | exact ⟨ho1.mono (by simp), ((Below.refl w1.heap.size w1).drew.alloc (Nat.le_refl _) _).trans (hb1.mono (by simp))⟩ | exact ⟨ho1.mono (by simp), ((Below.refl w1.heap.size w1).alloc (Nat.le_refl _) _).drew.trans (hb1.mono (by simp))⟩); (first | have HX2 : Hid (BoxAt w2 w1.heap.size (.pointer none) 55) := (BoxAt.new w1 _ _).below hb1 | have HX2 : Hid (BoxAt w2 w1.heap.size (.pointer none) 55) := (BoxAt.new w1.drew _ _).below hb1 | have HX2 : Hid (BoxAt w2 w1.heap.size (.pointer none) 55) := ((BoxAt.new w1 _ _).below ((Below.refl _ _).drew)).below hb1 | skip); clear ho1 hb1))
  all_goals
    obtain ⟨bx, WX, e1, e2, HPQ⟩ : ∃ bx WX, _ = bx ∧ _ = WX ∧ Hid (PcQ w n k S R p bx (fitL (stOf n S R) (stOf n S R) n n k) (lev n n k (fitL (stOf n S R) (stOf n S R) n n k) 0) WX) := by
      first
        | exact ⟨_, _, rfl, rfl, PcQ.early HP1.out HX4.out.2.2 HP4.out.2.1 HX4.out.1 (by first | omega | exact HP3.out.2.2.size | exact HP2.out.2.size) HX4.out.2.1⟩
        | exact ⟨_, _, rfl, rfl, PcQ.late HP1.out HP4.out.1 HP4.out.2.1 HP4.out.2.2⟩
    rw [e2, e1]
    clear e1 e2 HP1 HP2 HP3 HP4
    obtain ⟨x0, x1⟩ := HPQ.out.x.cell
    have HFL : Hid ((fitL (stOf n S R) (stOf n S R) n n k).length = (n * n + 1) ^ k) := fitL_len _ _ _ _ _
    have HLV := Lib.hid (fun t x y hx hy => put_lev (stOf n S R) n k t x y (by omega) hx hy)
    obtain ⟨F, hFE⟩ : ∃ F, fitL (stOf n S R) (stOf n S R) n n k = F := ⟨_, rfl⟩
    have HFE := Lib.hid hFE
    rw [hFE] at HPQ HFL HLV
    have HTL := Lib.hid (fun t (h : turnU n n k F (lev n n k F t) ≠ lev n n k F t) => turn_less h)
    clear hFE
    go_wp2_with fail
    go_loopw [25] (fun _ wr => ∃ t, Hid (PcQ w n k S R p bx F (lev n n k F t) wr)) (fun _ wr => winW wr p F.length)
    case atStart => exact ⟨0, HPQ⟩
    case round =>
      clear HPQ x0 x1
      obtain ⟨t, HPQ⟩ := hrel
      obtain ⟨x0, x1⟩ := HPQ.out.x.cell
      have HT := Lib.hid (HTN.out p F (lev n n k F t) wr HPQ.out.q HFL.out (by rw [lev_len]; exact HFL.out))
      go_wp2_with fail
      refine HT.out.mono ?_; rintro e w9 ⟨rfl, hq9, ho9, _⟩
      have HQ9 := Lib.hid (HPQ.out.turn hq9 ho9)
      have HM1 := Lib.hid (winW_is HPQ.out.q)
      have HM2 := Lib.hid (winW_is hq9)
      rw [lev_len] at HM1
      rw [turnU_len] at HM2
      have HTT := Lib.hid (HTL.out t)
      clear hq9 ho9 x0 x1 HT
      obtain ⟨r, hr⟩ : ∃ r, decide (turnU n n k F (lev n n k F t) = lev n n k F t) = r := ⟨_, rfl⟩
      rw [hr]
      cases r
      · have HLT := Lib.hid (HTT.out (of_decide_eq_false hr))
        clear hr
        go_wp2_with fail
        go_roundw
        case rel => exact ⟨t + 1, HQ9⟩
        case measure => rw [HM1.out, HM2.out]; exact HLT.out
      · have HE := Lib.hid (of_decide_eq_true hr)
        clear hr HTT
        rw [HE.out] at HQ9
        obtain ⟨s0, s1, s2, sc⟩ := HQ9.out.c.cells
        obtain ⟨y0, y1⟩ := HQ9.out.x.cell
        have HCC := Lib.hid (HCB.out 40 #[.pointer (some ⟨w.heap.size + 1, 0, none⟩), .pointer (some ⟨bx, 0, none⟩)] (fun y x => pwB (stOf n S R) (stOf n S R) n n t (putI k y) (putI k x)) w9 (fun _ _ => by kernel_rfl) (fun x y W' hx hy hb => by
          have hq := HQ9.out.below hb
          rw [← HLV.out t x y hx hy]
          exact HCL.out p F (lev n n k F t) x y (w.heap.size + 1) bx W' hq.q hq.c.cells.2.2.2 hq.x.cell.1 hx hy (by rw [lev_len]; exact HFL.out)))
        go_wp2_with fail
        refine HCC.out.mono ?_; rintro e w10 ⟨v, rfl, ho, hb10⟩
        have HN := Lib.hid (ho.nums)
        obtain ⟨g, cap, rfl, _, _, _, _, _⟩ := ho.cells
        have HMM := Lib.hid (HMX.out _ _ w10 HN.out (by rw [(clsN_len _ _).1]; omega))
        have HB10 := Lib.hid (HQ9.out.c.old.trans (hb10.mono HQ9.out.c.old.size))
        have HLN := Lib.hid (clsN_len (fun y x => pwB (stOf n S R) (stOf n S R) n n t (putI k y) (putI k x)) n)
        rw [HLN.out.1] at HMM ⊢
        have HMB : Hid (maxU (clsN (fun y x => pwB (stOf n S R) (stOf n S R) n n t (putI k y) (putI k x)) n).1 (n - 1) ≤ 8) := by
          show _ ≤ _
          refine Nat.le_trans (maxU_le ?_ _) h8
          intro z hz
          have := HLN.out.2.2 z hz
          have := HLN.out.2.1
          omega
        have HF : Hid (PcP w n k (stOf n S R) (.returned (.int .i64 (((maxU (clsN (fun y x => pwB (stOf n S R) (stOf n S R) n n t (putI k y) (putI k x)) n).1 (n - 1) : Nat) : Int) + 1))) w10) := ⟨t, rfl, HB10.out⟩
        have hmb := HMB.out
        generalize maxU (clsN (fun y x => pwB (stOf n S R) (stOf n S R) n n t (putI k y) (putI k x)) n).1 (n - 1) = mx at *
        clear ho hb10 HLN
        go_wp2_with fail
        refine HMM.out.mono ?_; rintro e w11 ⟨rfl, hw11⟩; rw [hw11]; clear hw11
        go_wp2_with fail
        go_ret
        exact HF.out
end Go.Proofs.YtnhlhjehocngcaaDoor
