/- Contracts of the program's functions and what they compute: part 27. Conditions: those that each theorem states. -/
import Derived.Test.YtnhlhjehocngcaaGreatDoorP50n26
namespace Go.Proofs.YtnhlhjehocngcaaGreatDoor
open Go.RowKit
set_option linter.unusedVariables false
set_option maxRecDepth 100000
theorem step_app1 {ops : Array Oper} {o : Oper} {a : Act} {K : Act → World → Prop} {Q : Exit → Act → World → Prop} {E : Prop} {w0 w : World} {v : Value} {L : List ByteArray}
    (hown : Strs w0 w v L) (hL : Hid (L.length ≤ 2000000)) (hgd : o.guard = none) (s x : Operand)
    (ho : o.op = .call { callee := .builtin .append, args := #[s, x], argTypes := #[143, 143] }) (y : ByteArray) (b : Nat) (hb : w.heap.size = b)
    (hs : a.eval s = v) (hx : a.eval x = .slice (some ⟨b, 0, none⟩) 1 1)
    (h : ∀ g cap w', Strs w0 w' (.slice (some ⟨g, 0, none⟩) (L.length + 1) cap) (L ++ [y]) → K (a.put o.dst (.slice (some ⟨g, 0, none⟩) (L.length + 1) cap)) w') :
    if Region.wanted o (yielded ops a.tmps) = true then Oper.wp Tryz.prog o a (w.alloc (.cells #[.string y] 9)) K Q else E := by
  have hL := hL.out
  subst hb
  obtain ⟨i, hi, hz, h1, h2⟩ := info_parts strInfo9
  have hbase : w0.heap.size ≤ w.heap.size := hown.old.size
  refine step_append_lies _ hgd s x 143 ho w0.heap.size 9 i (.string ByteArray.empty) 1 16 Tryz.underlying143 hi hz h1 h2 rfl (by decide) v L.length (L.map .string) hs (hown.own.alloc _) ⟨w.heap.size, 0, none⟩ 1 1 [.string y] hx rfl ?_ ?_ (by decide) ?_ ?_ ?_ _ rfl ?_
  · intro j u hj
    match j, hj with
    | 0, hj => simp at hj; subst hj; simp [Addr.add]
  · intro u hu
    simp at hu; subst hu; rfl
  · unfold maxLen; omega
  · omega
  · simp; omega
  · intro g cap w' h2 h3 h4 h5
    refine h g cap w' ⟨?_, by simp, ?_⟩
    · simpa using h2
    · exact (hown.old.alloc hbase _).grown h3 (by simp; omega) fun k hk => (hown.own.lt k hk).1
/-- A row of a level's numbers. -/
theorem LevAt.row {w : World} {v : Value} {cs : List (List Nat)} (h : LevAt w v cs) {i : Nat} (hi : i < cs.length) (h0 : 0 < (cs.getD i []).length) :
    ∃ g cap g2 o cap2, v = .slice (some ⟨g, 0, none⟩) cs.length cap ∧ w.cell? ⟨g, i, none⟩ = some (.slice (some ⟨g2, o, none⟩) (cs.getD i []).length cap2) ∧ ∀ j, j < (cs.getD i []).length → w.cell? ⟨g2, o + j, none⟩ = some (.int .i64 (((cs.getD i []).getD j 0 : Nat) : Int)) := by
  obtain ⟨g, cap, rfl, _, _, _, h4⟩ := h
  obtain ⟨x, q1, q2⟩ := h4 i hi
  rcases q2 with ⟨rfl, e⟩ | ⟨g2, o, cap2, rfl, _, _, _, hc⟩
  · rw [e] at h0; simp at h0
  · exact ⟨g, cap, g2, o, cap2, rfl, q1, hc⟩
/-- What l7Move keeps of the memory. -/
structure Mv (w : World) (n : Nat) (S R : ByteArray) (m : Nat) (S2 R2 : ByteArray) (ga lc capa gb ld capb : Nat) (t N N2 g1 o1 cap1 g2 o2 cap2 : Nat) (C D : List Nat) (wr : World) : Prop where
  b : TellB wr w.heap.size n S R m S2 R2 (.slice (some ⟨ga, 0, none⟩) lc capa) (.slice (some ⟨gb, 0, none⟩) ld capb)
  old : Below w.heap.size w wr
  x0 : wr.cell? ⟨ga, t, none⟩ = some (.slice (some ⟨g1, o1, none⟩) N cap1)
  x1 : ∀ j, j < N → wr.cell? ⟨g1, o1 + j, none⟩ = some (.int .i64 ((C.getD j 0 : Nat) : Int))
  y0 : wr.cell? ⟨gb, t, none⟩ = some (.slice (some ⟨g2, o2, none⟩) N2 cap2)
  y1 : ∀ j, j < N2 → wr.cell? ⟨g2, o2 + j, none⟩ = some (.int .i64 ((D.getD j 0 : Nat) : Int))
theorem Mv.below {w wr w' : World} {n m ga lc capa gb ld capb t N N2 g1 o1 cap1 g2 o2 cap2 : Nat} {S R S2 R2 : ByteArray} {C D : List Nat} (h : Mv w n S R m S2 R2 ga lc capa gb ld capb t N N2 g1 o1 cap1 g2 o2 cap2 C D wr) (hb : Below wr.heap.size wr w') : Mv w n S R m S2 R2 ga lc capa gb ld capb t N N2 g1 o1 cap1 g2 o2 cap2 C D w' :=
  ⟨h.b.below hb, h.old.trans (hb.mono h.old.size), (hb.cell (World.block_lt_of_cell? _ _ h.x0)).trans h.x0, fun j hj => (hb.cell (World.block_lt_of_cell? _ _ (h.x1 j hj))).trans (h.x1 j hj), (hb.cell (World.block_lt_of_cell? _ _ h.y0)).trans h.y0, fun j hj => (hb.cell (World.block_lt_of_cell? _ _ (h.y1 j hj))).trans (h.y1 j hj)⟩
theorem mvT_hit {t : Nat} {a b : Gs.St} {L M : List Int} {i x k : Nat} (h : fsO (mvO t a b L M i) x = none) (hb : beatA a b t L M i x = true) (hx : x < k) : mvT t a b L M i k = quB ⟨#[83]⟩ i ((List.range b.n).map fun y : Nat => pebF t a b (L.set i (x : Int)) (M.set i (y : Int))) := by
  unfold mvT
  rw [fsO_yes h (show mvO t a b L M i x = some _ by unfold mvO; rw [if_pos hb]) hx]
  rfl
theorem mvT_miss {t : Nat} {a b : Gs.St} {L M : List Int} {i x : Nat} (h : fsO (mvO t a b L M i) x = none) (hb : beatA a b t L M i x = false) : fsO (mvO t a b L M i) (x + 1) = none := fsO_no h (by unfold mvO; rw [hb]; rfl)
theorem range_snoc (F : Nat → ByteArray) (y : Nat) : (List.range (y + 1)).map F = (List.range y).map F ++ [F y] := by rw [List.range_succ, List.map_append]; rfl
set_option maxHeartbeats 4000000 in
theorem l7Move_ok (t : Nat) (hFO : FOK t) : MOK t := by
  intro n S R m S2 R2 va vb cs ds T L M v u i w hT ht hT3 hi
  have hn := hT.hn
  have hm := hT.hm
  have hk3 := hT.k3
  have hlen := hT.r.len
  have HPA : Hid (∀ (x : Nat) (W : World), Below w.heap.size w W → Calls Tryz.prog 131 #[v, .int .i64 (i : Int), .int .i64 (x : Int)] W (ListI (L.set i (x : Int)) W)) := fun x W hb => l7Put_any L i (x : Int) v W (hT.iv.below hb) hi (by omega)
  have HPB : Hid (∀ (y : Nat) (W : World), Below w.heap.size w W → Calls Tryz.prog 131 #[u, .int .i64 (i : Int), .int .i64 (y : Int)] W (ListI (M.set i (y : Int)) W)) := fun y W hb => l7Put_any M i (y : Int) u W (hT.iu.below hb) (by omega) (by omega)
  have HIA : Hid (∀ (x : Nat) (v' : Value) (W : World), x < n → IntsAt W v' (L.set i (x : Int)) → Calls Tryz.prog 69 #[strV n S R, v'] W fun e w' => e = .returned (.int .i64 ((ixL (n + 1) (L.set i (x : Int)) : Nat) : Int)) ∧ Below W.heap.size W w') := fun x v' W hx h => l7Index_any n S R _ v' W hn (by rw [List.length_set]; exact hk3) h (Pbs.set hT.r.la i hx)
  have HIB : Hid (∀ (y : Nat) (v' : Value) (W : World), y < m → IntsAt W v' (M.set i (y : Int)) → Calls Tryz.prog 69 #[strV m S2 R2, v'] W fun e w' => e = .returned (.int .i64 ((ixL (m + 1) (M.set i (y : Int)) : Nat) : Int)) ∧ Below W.heap.size W w') := fun y v' W hy h => l7Index_any m S2 R2 _ v' W hm (by rw [List.length_set]; omega) h (Pbs.set hT.r.lb i hy)
  have HFA : Hid (∀ (x y : Nat) (v' u' : Value) (W : World), x < n → y < m → Below w.heap.size w W → IntsAt W v' (L.set i (x : Int)) → IntsAt W u' (M.set i (y : Int)) → pwB (stOf n S R) (stOf m S2 R2) n m t (L.set i (x : Int)) (M.set i (y : Int)) = false → Calls Tryz.prog 34 #[l7V n S R m S2 R2 va vb, v', u', .int .i64 (t : Int)] W fun e w' => e = .returned (.string (pebF t (stOf n S R) (stOf m S2 R2) (L.set i (x : Int)) (M.set i (y : Int)))) ∧ Below W.heap.size W w') := fun x y v' u' W hx hy hb hv hu hp => hFO n S R m S2 R2 va vb cs ds T _ _ v' u' W ((hT.below hb).put i hx hy hv hu) (by omega) hT3 hp
  have HEQ : Hid (∀ (x y : Nat), x < n → y < m → ((cs.getD t []).getD (ixL (n + 1) (L.set i (x : Int))) 0 = (ds.getD t []).getD (ixL (m + 1) (M.set i (y : Int))) 0 ↔ pwB (stOf n S R) (stOf m S2 R2) n m t (L.set i (x : Int)) (M.set i (y : Int)) = true)) := fun x y hx hy => (hT.f.at' t (by omega)).2.2.2.2 _ _ (Pbs.set hT.r.la i hx) (Pbs.set hT.r.lb i hy) (by rw [List.length_set]) (by rw [List.length_set, hT.r.len]) (hT.r.putB i hx hy).sg
  have HXA : Hid (∀ x, x < n → ixL (n + 1) (L.set i (x : Int)) < (n + 1) ^ L.length) := fun x hx => ixL_lt L.length (by rw [List.length_set]) (Pbs.set hT.r.la i hx)
  have HXB : Hid (∀ y, y < m → ixL (m + 1) (M.set i (y : Int)) < (m + 1) ^ L.length) := fun y hy => ixL_lt L.length (by rw [List.length_set, hlen]) (Pbs.set hT.r.lb i hy)
  have hpn := pw_le hn hk3
  have hpm := pw_le hm hk3
  have f1 := (hT.f.at' t (by omega)).1
  have f2 := (hT.f.at' t (by omega)).2.1
  have hlc := hT.f.lc
  have hld := hT.f.ld
  have hN0 : 0 < (n + 1) ^ L.length := Nat.pow_pos (by omega)
  have hN20 : 0 < (m + 1) ^ L.length := Nat.pow_pos (by omega)
  obtain ⟨ga, capa, g1, o1, cap1, rfl, x0, x1⟩ := hT.A.row (i := t) (by omega) (by rw [f1]; exact hN0)
  obtain ⟨gb, capb, g2, o2, cap2, rfl, y0, y1⟩ := hT.B.row (i := t) (by omega) (by rw [f2]; exact hN20)
  rw [f1] at x0 x1
  rw [f2] at y0 y1
  have HSZ : Hid (∀ x y : Nat, (pebF t (stOf n S R) (stOf m S2 R2) (L.set i (x : Int)) (M.set i (y : Int))).size ≤ 100000) := fun x y => by
    have h1 := pebF_size t (stOf n S R) (stOf m S2 R2) (L.set i (x : Int)) (M.set i (y : Int)) hT.n1 hT.hn hT.m1 hT.hm
    have h2 : szF t ≤ 2851 := by
      have : t ≤ 3 := by omega
      match t, this with
      | 0, _ => decide
      | 1, _ => decide
      | 2, _ => decide
      | 3, _ => decide
    show _ ≤ _
    omega
  have hm1 := hT.m1
  obtain ⟨a1, ca, rfl, _, _, _⟩ := hT.iv.view
  obtain ⟨b1, cb, rfl, _, _, _⟩ := hT.iu.view
  have htl : t < cs.length := by omega
  have htl2 : t < ds.length := by omega
  generalize cs.length = lc at *
  generalize ds.length = ld at *
  have HMV : Hid (Mv w n S R m S2 R2 ga lc capa gb ld capb t ((n + 1) ^ L.length) ((m + 1) ^ L.length) g1 o1 cap1 g2 o2 cap2 (cs.getD t []) (ds.getD t []) (w.alloc (.cells #[.int .i64 (n : Int), .string S, .string R, .int .i64 (m : Int), .string S2, .string R2, .slice (some ⟨ga, 0, none⟩) lc capa, .slice (some ⟨gb, 0, none⟩) ld capb] 70))) := by
    have hb : Below w.heap.size w (w.alloc (.cells #[.int .i64 (n : Int), .string S, .string R, .int .i64 (m : Int), .string S2, .string R2, .slice (some ⟨ga, 0, none⟩) lc capa, .slice (some ⟨gb, 0, none⟩) ld capb] 70)) := (Below.refl _ _).alloc (Nat.le_refl _) _
    have key : ∀ (p : Addr) (z : Value), w.cell? p = some z → (w.alloc (.cells #[.int .i64 (n : Int), .string S, .string R, .int .i64 (m : Int), .string S2, .string R2, .slice (some ⟨ga, 0, none⟩) lc capa, .slice (some ⟨gb, 0, none⟩) ld capb] 70)).cell? p = some z := fun p z h => (hb.cell (p := p) (World.block_lt_of_cell? _ _ h)).trans h
    exact ⟨heap_alloc_new w _, hb, key _ _ x0, fun j hj => key _ _ (x1 j hj), key _ _ y0, fun j hj => key _ _ (y1 j hj)⟩
  have HBT : Hid (∀ x, beatA (stOf n S R) (stOf m S2 R2) t L M i x = true ↔ ∀ y, y < m → pwB (stOf n S R) (stOf m S2 R2) n m t (L.set i (x : Int)) (M.set i (y : Int)) = false) := fun x => by
    unfold beatA
    rw [List.all_eq_true]
    constructor
    · intro h y hy
      have : (!pwB (stOf n S R) (stOf m S2 R2) n m t (L.set i (x : Int)) (M.set i (y : Int))) = true := h y (List.mem_range.2 hy)
      simpa using this
    · intro h y hy
      have := h y (List.mem_range.1 hy)
      show (!pwB (stOf n S R) (stOf m S2 R2) n m t (L.set i (x : Int)) (M.set i (y : Int))) = true
      rw [this]; rfl
  have HHIT : Hid (∀ x, x < n → fsO (mvO t (stOf n S R) (stOf m S2 R2) L M i) x = none → beatA (stOf n S R) (stOf m S2 R2) t L M i x = true → mvT t (stOf n S R) (stOf m S2 R2) L M i n = quB ⟨#[83]⟩ i ((List.range m).map fun y : Nat => pebF t (stOf n S R) (stOf m S2 R2) (L.set i (x : Int)) (M.set i (y : Int)))) := fun x hx h hb => mvT_hit h hb hx
  have HMISS : Hid (∀ x, fsO (mvO t (stOf n S R) (stOf m S2 R2) L M i) x = none → beatA (stOf n S R) (stOf m S2 R2) t L M i x = false → fsO (mvO t (stOf n S R) (stOf m S2 R2) L M i) (x + 1) = none) := fun x h hb => mvT_miss h hb
  have HEND : Hid (fsO (mvO t (stOf n S R) (stOf m S2 R2) L M i) n = none → mvT t (stOf n S R) (stOf m S2 R2) L M i n = ByteArray.empty) := fun h => mvT_empty.2 h
  have HNO0 : Hid (fsO (mvO t (stOf n S R) (stOf m S2 R2) L M i) 0 = none) := rfl
  generalize hMV : fsO (mvO t (stOf n S R) (stOf m S2 R2) L M i) = MVF at *
  generalize hRV : mvT t (stOf n S R) (stOf m S2 R2) L M i n = RV at *
  clear hMV hRV
  generalize cs.getD t [] = C at *
  generalize ds.getD t [] = D at *
  generalize (n + 1) ^ L.length = N at *
  generalize (m + 1) ^ L.length = N2 at *
  have HI3 : Hid (i < 3) := by show i < 3; omega
  have hiI : (i : Int) < 3 := by omega
  have htI : (t : Int) ≤ 3 := by omega
  have htlI : (t : Int) < (lc : Int) := by omega
  have htl2I : (t : Int) < (ld : Int) := by omega
  have ht1 : (t : Int) + 1 - 1 = (t : Int) := by omega
  have ht0 : (0 : Int) ≤ (t : Int) := by omega
  have htw : IntKind.i64.wrap (t : Int) = (t : Int) := IntWalk.i64_in _ (by omega)
  have hnI : (n : Int) ≤ 8 := by omega
  have hmI : (m : Int) ≤ 8 := by omega
  have HNN : Hid ((N : Int) ≤ 729 ∧ (N2 : Int) ≤ 729) := ⟨by omega, by omega⟩
  have HM1 : Hid (1 ≤ m ∧ m ≤ 8) := ⟨hm1, hm⟩
  clear x0 x1 y0 y1 f1 f2 hFO hT hpn hpm htl htl2 hlc hld hN0 hN20 hn hm hk3 hlen hi hm1
  rw [show ((t + 1 : Nat) : Int) = (t : Int) + 1 from rfl]
  unfold l7V strV at *
  go_enter Tryz.func75, Tryz.ntmps75
  go_upto_region 1 with fail
  generalize w.alloc (.cells #[.int .i64 (n : Int), .string S, .string R, .int .i64 (m : Int), .string S2, .string R2, .slice (some ⟨ga, 0, none⟩) lc capa, .slice (some ⟨gb, 0, none⟩) ld capb] 70) = W0 at *
  go_wp2_with fail
  go_loopw [11] (fun q wr => ∃ x : Nat, x ≤ n ∧ q = .int .i64 (x : Int) ∧ Hid (Mv w n S R m S2 R2 ga lc capa gb ld capb t N N2 g1 o1 cap1 g2 o2 cap2 C D wr) ∧ Hid (MVF x = none)) (fun q _ => n - (intOf q).toNat)
  case atStart => exact ⟨0, by omega, rfl, HMV, HNO0⟩
  case round =>
    clear HMV HNO0
    obtain ⟨x, hx, rfl, HM, HN⟩ := hrel
    obtain ⟨wo, hwo⟩ : ∃ wo : World, wo = wr := ⟨_, rfl⟩
    subst hwo
    obtain ⟨c0, c1, c2, c3, c4, c5, c6, c7⟩ := HM.out.b.cells
    by_cases hlt : x < n
    · have hxI : (x : Int) < (n : Int) := by omega
      have hxa := HXA.out x hlt
      have HX := Lib.hid (And.intro hlt hx)
      have HIX : Hid ((ixL (n + 1) (L.set i (x : Int)) : Int) < (N : Int) ∧ (ixL (n + 1) (L.set i (x : Int)) : Int) ≤ 729) := ⟨by omega, by have := HNN.out; omega⟩
      have HEX : Hid (∀ y, y < m → (C.getD (ixL (n + 1) (L.set i (x : Int))) 0 = D.getD (ixL (m + 1) (M.set i (y : Int))) 0 ↔ pwB (stOf n S R) (stOf m S2 R2) n m t (L.set i (x : Int)) (M.set i (y : Int)) = true)) := fun y hy => HEQ.out x y hlt hy
      have HCA : Hid (∀ (v' : Value) (W : World), IntsAt W v' (L.set i (x : Int)) → _) := fun v' W h => HIA.out x v' W hlt h
      have HCX : Hid (C.getD (ixL (n + 1) (L.set i (x : Int))) 0 = C.getD (ixL (n + 1) (L.set i (x : Int))) 0) := rfl
      obtain ⟨ia, hia⟩ : ∃ ia, ixL (n + 1) (L.set i (x : Int)) = ia := ⟨_, rfl⟩
      rw [hia] at HIX HEX HCA hxa
      obtain ⟨cN, hcN⟩ : ∃ cN, C.getD ia 0 = cN := ⟨_, rfl⟩
      have KX : Hid (∀ W : World, Below wo.heap.size wo W → (W.cell? ⟨w.heap.size, 0, none⟩ = some (.int .i64 (n : Int)) ∧ W.cell? ⟨w.heap.size, 1, none⟩ = some (.string S) ∧ W.cell? ⟨w.heap.size, 2, none⟩ = some (.string R) ∧ W.cell? ⟨w.heap.size, 6, none⟩ = some (.slice (some ⟨ga, 0, none⟩) lc capa)) ∧ W.cell? ⟨ga, t, none⟩ = some (.slice (some ⟨g1, o1, none⟩) N cap1) ∧ W.cell? ⟨g1, o1 + ia, none⟩ = some (.int .i64 (cN : Int))) := fun W hb => by
        have h := HM.out.below hb
        obtain ⟨c0, c1, c2, c3, c4, c5, c6, c7⟩ := h.b.cells
        refine ⟨⟨c0, c1, c2, c6⟩, h.x0, ?_⟩
        have := h.x1 ia hxa
        rw [hcN] at this
        exact this
      rw [hcN] at HEX
      clear hia hcN HCX hxa
      obtain ⟨⟨e0, e1, e2, e3⟩, e4, e5⟩ := KX.out wo (Below.refl _ _)
      go_upto_region 4 with fail
      have hIX1 := HIX.out.1
      have hIX2 := HIX.out.2
      go_region_held3 (fun W => (W.cell? ⟨w.heap.size, 0, none⟩ = some (.int .i64 (n : Int)) ∧ W.cell? ⟨w.heap.size, 1, none⟩ = some (.string S) ∧ W.cell? ⟨w.heap.size, 2, none⟩ = some (.string R) ∧ W.cell? ⟨w.heap.size, 6, none⟩ = some (.slice (some ⟨ga, 0, none⟩) lc capa)) ∧ W.cell? ⟨ga, t, none⟩ = some (.slice (some ⟨g1, o1, none⟩) N cap1) ∧ W.cell? ⟨g1, o1 + ia, none⟩ = some (.int .i64 (cN : Int)))
        (first | exact KX.out _ HB2.out | exact KX.out _ HB1.out.2 | exact KX.out _ (Below.refl _ _) | go_keep)
        (first
        | (go_at_call 69; refine (HCA.out _ _ HB1.out.1).mono ?_; rintro e w2 ⟨rfl, hb2⟩; have HB2 : Hid (Below wo.heap.size wo w2) := HB1.out.2.trans (hb2.mono HB1.out.2.size); clear hb2)
        | (go_at_call 131; refine (HPA.out x _ (HM.out.old.trans (((Below.refl _ _).drew).mono HM.out.old.size))).mono ?_; rintro e w1 ⟨v1, rfl, ho1, hb1⟩; have HB1 : Hid (IntsAt w1 v1 (L.set i (x : Int)) ∧ Below wo.heap.size wo w1) := ⟨ho1.ints, (Below.refl _ _).drew.trans hb1⟩; clear ho1 hb1))
      all_goals
        have HM2 := Lib.hid (HM.out.below HB2.out)
        clear HB2 HB1 HM e0 e1 e2 e3 e4 e5 KX HCA
        go_wp2_with fail
        go_loopw [13, 14] (fun r q wr => ∃ (y : Nat) (b : Bool), y ≤ m ∧ r = .bool b ∧ q = .int .i64 (y : Int) ∧ Hid (Mv w n S R m S2 R2 ga lc capa gb ld capb t N N2 g1 o1 cap1 g2 o2 cap2 C D wr) ∧ Hid (b = true ↔ ∃ j : Nat, j < y ∧ pwB (stOf n S R) (stOf m S2 R2) n m t (L.set i (x : Int)) (M.set i (j : Int)) = true)) (fun _ q _ => m - (intOf q).toNat)
        case atStart => exact ⟨0, false, by omega, rfl, rfl, HM2, by constructor; (intro h; cases h); (rintro ⟨j, hj, _⟩; omega)⟩
        case round =>
          clear HM2
          obtain ⟨y, b, hy, rfl, rfl, HMI, HR⟩ := hrel
          obtain ⟨wi, hwi⟩ : ∃ wi : World, wi = wr := ⟨_, rfl⟩
          subst hwi
          by_cases hlty : y < m
          · have hyI : (y : Int) < (m : Int) := by omega
            cases b
            · have hxb := HXB.out y hlty
              have HIY : Hid ((ixL (m + 1) (M.set i (y : Int)) : Int) < (N2 : Int) ∧ (ixL (m + 1) (M.set i (y : Int)) : Int) ≤ 729) := ⟨by omega, by have := HNN.out; omega⟩
              have HEY := Lib.hid (HEX.out y hlty)
              have HCB : Hid (∀ (v' : Value) (W : World), IntsAt W v' (M.set i (y : Int)) → _) := fun v' W h => HIB.out y v' W hlty h
              have HRN : Hid (∀ r : Bool, pwB (stOf n S R) (stOf m S2 R2) n m t (L.set i (x : Int)) (M.set i (y : Int)) = r → (r = true ↔ ∃ j : Nat, j < y + 1 ∧ pwB (stOf n S R) (stOf m S2 R2) n m t (L.set i (x : Int)) (M.set i (j : Int)) = true)) := fun r hr => by
                constructor
                · intro h; exact ⟨y, by omega, by rw [hr, h]⟩
                · rintro ⟨j, hj, h⟩
                  by_cases e : j = y
                  · rw [e, hr] at h; exact h
                  · have := HR.out.2 ⟨j, by omega, h⟩; cases this
              obtain ⟨ib, hib⟩ : ∃ ib, ixL (m + 1) (M.set i (y : Int)) = ib := ⟨_, rfl⟩
              rw [hib] at HIY HEY HCB hxb
              obtain ⟨dN, hdN⟩ : ∃ dN, D.getD ib 0 = dN := ⟨_, rfl⟩
              have KY : Hid (∀ W : World, Below wi.heap.size wi W → (W.cell? ⟨w.heap.size, 3, none⟩ = some (.int .i64 (m : Int)) ∧ W.cell? ⟨w.heap.size, 4, none⟩ = some (.string S2) ∧ W.cell? ⟨w.heap.size, 5, none⟩ = some (.string R2) ∧ W.cell? ⟨w.heap.size, 7, none⟩ = some (.slice (some ⟨gb, 0, none⟩) ld capb)) ∧ W.cell? ⟨gb, t, none⟩ = some (.slice (some ⟨g2, o2, none⟩) N2 cap2) ∧ W.cell? ⟨g2, o2 + ib, none⟩ = some (.int .i64 (dN : Int))) := fun W hb => by
                have h := HMI.out.below hb
                obtain ⟨c0, c1, c2, c3, c4, c5, c6, c7⟩ := h.b.cells
                refine ⟨⟨c3, c4, c5, c7⟩, h.y0, ?_⟩
                have := h.y1 ib hxb
                rw [hdN] at this
                exact this
              rw [hdN] at HEY
              clear hib hdN hxb HR
              have hIY1 := HIY.out.1
              have hIY2 := HIY.out.2
              by_cases hdc : cN = dN
              · have HR2 := Lib.hid ((HRN.out true (HEY.out.1 hdc)).1 rfl)
                subst hdc
                clear HRN HEY
                obtain ⟨⟨e0, e1, e2, e3⟩, e4, e5⟩ := KY.out wi (Below.refl _ _)
                go_upto_region 9 with fail
                go_region_held3 (fun W => (W.cell? ⟨w.heap.size, 3, none⟩ = some (.int .i64 (m : Int)) ∧ W.cell? ⟨w.heap.size, 4, none⟩ = some (.string S2) ∧ W.cell? ⟨w.heap.size, 5, none⟩ = some (.string R2) ∧ W.cell? ⟨w.heap.size, 7, none⟩ = some (.slice (some ⟨gb, 0, none⟩) ld capb)) ∧ W.cell? ⟨gb, t, none⟩ = some (.slice (some ⟨g2, o2, none⟩) N2 cap2) ∧ W.cell? ⟨g2, o2 + ib, none⟩ = some (.int .i64 (cN : Int)))
                  (first | exact KY.out _ HB2.out | exact KY.out _ HB1.out.2 | exact KY.out _ (Below.refl _ _) | go_keep)
                  (first
                  | (go_at_call 69; refine (HCB.out _ _ HB1.out.1).mono ?_; rintro e w2 ⟨rfl, hb2⟩; have HB2 : Hid (Below wi.heap.size wi w2) := HB1.out.2.trans (hb2.mono HB1.out.2.size); clear hb2)
                  | (go_at_call 131; refine (HPB.out y _ (HMI.out.old.trans (((Below.refl _ _).drew).mono HMI.out.old.size))).mono ?_; rintro e w1 ⟨v1, rfl, ho1, hb1⟩; have HB1 : Hid (IntsAt w1 v1 (M.set i (y : Int)) ∧ Below wi.heap.size wi w1) := ⟨ho1.ints, (Below.refl _ _).drew.trans hb1⟩; clear ho1 hb1))
                all_goals
                  have HM3 := Lib.hid (HMI.out.below HB2.out)
                  clear HB2 HB1 HMI KY e0 e1 e2 e3 e4 e5
                  go_wp2_with fail
                  go_roundw
                  case rel => exact ⟨y + 1, _, by omega, rfl, by go_num, HM3, ⟨fun _ => HR2.out, fun _ => rfl⟩⟩
                  case measure => simp [intOf]; omega
              · have HR2 := Lib.hid (fun hx => Bool.false_ne_true ((HRN.out false (by cases hh : pwB (stOf n S R) (stOf m S2 R2) n m t (L.set i (x : Int)) (M.set i (y : Int)); rfl; exact absurd (HEY.out.2 hh) hdc)).2 hx))
                have hdcI : ¬ ((dN : Int) = (cN : Int)) := by omega
                have hdB : ((dN : Int) == (cN : Int)) = false := by rw [beq_eq_false_iff_ne]; omega
                clear HRN HEY hdc
                obtain ⟨⟨e0, e1, e2, e3⟩, e4, e5⟩ := KY.out wi (Below.refl _ _)
                go_upto_region 9 with fail
                go_region_held3 (fun W => (W.cell? ⟨w.heap.size, 3, none⟩ = some (.int .i64 (m : Int)) ∧ W.cell? ⟨w.heap.size, 4, none⟩ = some (.string S2) ∧ W.cell? ⟨w.heap.size, 5, none⟩ = some (.string R2) ∧ W.cell? ⟨w.heap.size, 7, none⟩ = some (.slice (some ⟨gb, 0, none⟩) ld capb)) ∧ W.cell? ⟨gb, t, none⟩ = some (.slice (some ⟨g2, o2, none⟩) N2 cap2) ∧ W.cell? ⟨g2, o2 + ib, none⟩ = some (.int .i64 (dN : Int)))
                  (first | exact KY.out _ HB2.out | exact KY.out _ HB1.out.2 | exact KY.out _ (Below.refl _ _) | go_keep)
                  (first
                  | (go_at_call 69; refine (HCB.out _ _ HB1.out.1).mono ?_; rintro e w2 ⟨rfl, hb2⟩; have HB2 : Hid (Below wi.heap.size wi w2) := HB1.out.2.trans (hb2.mono HB1.out.2.size); clear hb2)
                  | (go_at_call 131; refine (HPB.out y _ (HMI.out.old.trans (((Below.refl _ _).drew).mono HMI.out.old.size))).mono ?_; rintro e w1 ⟨v1, rfl, ho1, hb1⟩; have HB1 : Hid (IntsAt w1 v1 (M.set i (y : Int)) ∧ Below wi.heap.size wi w1) := ⟨ho1.ints, (Below.refl _ _).drew.trans hb1⟩; clear ho1 hb1))
                all_goals
                  have HM3 := Lib.hid (HMI.out.below HB2.out)
                  clear HB2 HB1 HMI KY e0 e1 e2 e3 e4 e5
                  go_wp2_with fail
                  go_roundw
                  case rel => exact ⟨y + 1, _, by omega, rfl, by go_num, HM3, ⟨fun h => (by first | (rw [hdB] at h; cases h) | cases h), fun h => (HR2.out h).elim⟩⟩
                  case measure => simp [intOf]; omega
            · have HR2 : Hid (true = true ↔ ∃ j : Nat, j < y + 1 ∧ pwB (stOf n S R) (stOf m S2 R2) n m t (L.set i (x : Int)) (M.set i (j : Int)) = true) := by
                obtain ⟨j, hj, h⟩ := HR.out.1 rfl
                exact ⟨fun _ => ⟨j, by omega, h⟩, fun _ => rfl⟩
              obtain ⟨c0, c1, c2, c3, c4, c5, c6, c7⟩ := HMI.out.b.cells
              go_upto_region 9 with fail
              go_quiet (fail)
              have HM3 := Lib.hid (HMI.out.below (below_drewQ (Below.refl _ _) nq))
              clear HMI c0 c1 c2 c3 c4 c5 c6 c7
              go_wp2_with fail
              go_roundw
              case rel => exact ⟨y + 1, _, by omega, rfl, by go_num, HM3, HR2⟩
              case measure => simp [intOf]; omega
          · obtain rfl : m = y := by omega
            obtain ⟨c0, c1, c2, c3, c4, c5, c6, c7⟩ := HMI.out.b.cells
            cases b
            · have HBE : Hid (beatA (stOf n S R) (stOf m S2 R2) t L M i x = true) := (HBT.out x).2 (fun y hy => by
                cases hh : pwB (stOf n S R) (stOf m S2 R2) n m t (L.set i (x : Int)) (M.set i (y : Int))
                · rfl
                · have := HR.out.2 ⟨y, hy, hh⟩; cases this)
              have HFX : Hid (∀ (y : Nat) (v' u' : Value) (W : World), y < m → Below w.heap.size w W → IntsAt W v' (L.set i (x : Int)) → IntsAt W u' (M.set i (y : Int)) → Calls Tryz.prog 34 #[.agg #[.int .i64 (n : Int), .string S, .string R, .int .i64 (m : Int), .string S2, .string R2, .slice (some ⟨ga, 0, none⟩) lc capa, .slice (some ⟨gb, 0, none⟩) ld capb], v', u', .int .i64 (t : Int)] W fun e w' => e = .returned (.string (pebF t (stOf n S R) (stOf m S2 R2) (L.set i (x : Int)) (M.set i (y : Int)))) ∧ Below W.heap.size W w') := fun y v' u' W hy hb hv hu => HFA.out x y v' u' W HX.out.1 hy hb hv hu ((HBT.out x).1 HBE.out y hy)
              have HQ := Lib.hid (HHIT.out x HX.out.1 HN.out HBE.out)
              have HSF := Lib.hid (fun y => HSZ.out x y)
              have HPX := Lib.hid (fun W hb => HPA.out x W hb)
              clear HBE HFA HSZ HPA HR HEX HEQ HHIT HMISS HEND HBT HIX HIA HIB HXA HXB
              obtain ⟨F, hF⟩ : ∃ F : Nat → ByteArray, (fun y : Nat => pebF t (stOf n S R) (stOf m S2 R2) (L.set i (x : Int)) (M.set i (y : Int))) = F := ⟨_, rfl⟩
              have hFy : ∀ y : Nat, pebF t (stOf n S R) (stOf m S2 R2) (L.set i (x : Int)) (M.set i (y : Int)) = F y := fun y => by rw [← hF]
              simp only [hFy] at HFX HSF
              rw [hF] at HQ
              clear hF hFy
              have HL0 : Hid (Strs wi (wi.alloc (.cells #[] 9)) (.slice (some ⟨wi.heap.size, 0, none⟩) 0 0) ((List.range 0).map F)) := Strs.lit0 wi
              have HRS := Lib.hid (range_snoc F)
              go_wp2_with fail
              go_loopw [15, 16] (fun o q wr => ∃ y : Nat, y ≤ m ∧ q = .int .i64 (y : Int) ∧ Hid (Strs wi wr o ((List.range y).map F))) (fun _ q _ => m - (intOf q).toNat)
              case atStart => exact ⟨0, by omega, rfl, HL0⟩
              case round =>
                clear HL0 c0 c1 c2 c3 c4 c5 c6 c7
                obtain ⟨y, hy, rfl, HS⟩ := hrel
                obtain ⟨wj, hwj⟩ : ∃ wj : World, wj = wr := ⟨_, rfl⟩
                subst hwj
                have HMJ := Lib.hid (HMI.out.below HS.out.old)
                obtain ⟨c0, c1, c2, c3, c4, c5, c6, c7⟩ := HMJ.out.b.cells
                by_cases hlty : y < m
                · have hyI : (y : Int) < (m : Int) := by omega
                  have HLL : Hid (((List.range y).map F).length ≤ 2000000) := by show _ ≤ _; rw [List.length_map, List.length_range]; have := HM1.out; omega
                  have HLE : Hid (((List.range y).map F).length + 1 = y + 1) := by show _ = _; rw [List.length_map, List.length_range]
                  have HR1 := Lib.hid (HRS.out y)
                  have HFY := Lib.hid (fun v' u' W hb hv hu => HFX.out y v' u' W hlty hb hv hu)
                  generalize (List.range y).map F = LB at *
                  obtain ⟨lg, lcap, rfl, -⟩ := HS.out.cells
                  obtain ⟨ln, hln⟩ : ∃ ln, LB.length = ln := ⟨_, rfl⟩
                  rw [hln] at HS ⊢
                  clear hln
                  obtain ⟨FY, hFY⟩ : ∃ FY, F y = FY := ⟨_, rfl⟩
                  rw [hFY] at HFY HR1
                  clear hFY
                  go_upto_region 15 with fail
                  go_region_held3 (fun W => W.cell? ⟨w.heap.size, 0, none⟩ = some (.int .i64 (n : Int)) ∧ W.cell? ⟨w.heap.size, 1, none⟩ = some (.string S) ∧ W.cell? ⟨w.heap.size, 2, none⟩ = some (.string R) ∧ W.cell? ⟨w.heap.size, 3, none⟩ = some (.int .i64 (m : Int)) ∧ W.cell? ⟨w.heap.size, 4, none⟩ = some (.string S2) ∧ W.cell? ⟨w.heap.size, 5, none⟩ = some (.string R2) ∧ W.cell? ⟨w.heap.size, 6, none⟩ = some (.slice (some ⟨ga, 0, none⟩) lc capa) ∧ W.cell? ⟨w.heap.size, 7, none⟩ = some (.slice (some ⟨gb, 0, none⟩) ld capb))
                    (first | exact (HMI.out.below HP9.out.old).b.cells | exact (HMJ.out.below HB3.out).b.cells | exact (HMJ.out.below HAB.out.2.2).b.cells | exact (HMJ.out.below HB2.out.2).b.cells | exact (HMJ.out.below HB1.out.2).b.cells | exact HMJ.out.b.cells | go_keep)
                    (first
                    | (go_at_call 34; refine (HFY.out _ _ _ (HMJ.out.old.trans (HAB.out.2.2.mono HMJ.out.old.size)) HAB.out.1 HAB.out.2.1).mono ?_; rintro e w3 ⟨rfl, hb3⟩; have HB3 : Hid (Below wj.heap.size wj w3) := HAB.out.2.2.trans (hb3.mono HAB.out.2.2.size); clear hb3)
                    | (refine step_app1 (HS.out.kept HB3.out) HLL rfl (.tmp 75) (.tmp 88) rfl FY _ rfl rfl rfl ?_; intro g cap w4 ho; have HP9 := Lib.hid ho; clear ho)
                    | (go_at_call 131; refine (HPB.out y _ (HMJ.out.old.trans (HB1.out.2.mono HMJ.out.old.size))).mono ?_; rintro e w2 ⟨v2, rfl, ho2, hb2⟩; have HAB : Hid (IntsAt w2 v1 (L.set i (x : Int)) ∧ IntsAt w2 v2 (M.set i (y : Int)) ∧ Below wj.heap.size wj w2) := ⟨HB1.out.1.below hb2, ho2.ints, HB1.out.2.trans (hb2.mono HB1.out.2.size)⟩; clear ho2 hb2)
                    | (go_at_call 131; refine (HPX.out _ (HMJ.out.old.trans (HB2.out.2.mono HMJ.out.old.size))).mono ?_; rintro e w2 ⟨v1, rfl, ho2, hb2⟩; have HAB : Hid (IntsAt w2 v1 (L.set i (x : Int)) ∧ IntsAt w2 v2 (M.set i (y : Int)) ∧ Below wj.heap.size wj w2) := ⟨ho2.ints, HB2.out.1.below hb2, HB2.out.2.trans (hb2.mono HB2.out.2.size)⟩; clear ho2 hb2)
                    | (go_at_call 131; refine (HPX.out _ (HMJ.out.old.trans (((Below.refl _ _).drew).mono HMJ.out.old.size))).mono ?_; rintro e w1 ⟨v1, rfl, ho1, hb1⟩; have HB1 : Hid (IntsAt w1 v1 (L.set i (x : Int)) ∧ Below wj.heap.size wj w1) := ⟨ho1.ints, (Below.refl _ _).drew.trans hb1⟩; clear ho1 hb1)
                    | (go_at_call 131; refine (HPB.out y _ (HMJ.out.old.trans (((Below.refl _ _).drew).mono HMJ.out.old.size))).mono ?_; rintro e w1 ⟨v2, rfl, ho1, hb1⟩; have HB2 : Hid (IntsAt w1 v2 (M.set i (y : Int)) ∧ Below wj.heap.size wj w1) := ⟨ho1.ints, (Below.refl _ _).drew.trans hb1⟩; clear ho1 hb1))
                  all_goals
                    have HPE : Hid (Strs wi w4 (.slice (some ⟨g, 0, none⟩) (LB.length + 1) cap) ((List.range (y + 1)).map F)) := by
                      have := HP9.out
                      rw [← HR1.out] at this
                      exact this
                    clear HP9 HR1 HLE HLL HFY HMJ HS
                    go_wp2_with fail
                    go_roundw
                    case rel => exact ⟨y + 1, by omega, by go_num, HPE⟩
                    case measure => simp [intOf]; omega
                · obtain rfl : m = y := by omega
                  have HU : Hid (sumL (uniqL ((List.range m).map F)) ≤ 1000000 ∧ (uniqL ((List.range m).map F)).length ≤ 1000 ∧ uniqL ((List.range m).map F) ≠ []) := by
                    obtain ⟨u1, u2, u3⟩ := uniqL_facts ((List.range m).map F)
                    rw [List.length_map, List.length_range] at u2
                    have h8 := HM1.out
                    have h1 := sumL_le (L := uniqL ((List.range m).map F)) (b := 100000) (fun f hf => by
                      obtain ⟨y, _, rfl⟩ := List.mem_map.1 (u1 f hf)
                      exact HSF.out y)
                    have h2 : (uniqL ((List.range m).map F)).length * 100000 ≤ 8 * 100000 := Nat.mul_le_mul_right _ (by omega)
                    refine ⟨by omega, by omega, u3 (fun e => ?_)⟩
                    have := congrArg List.length e
                    simp at this
                    omega
                  have HPL : Hid (((List.range m).map F).length ≤ 1000) := by have := HM1.out; show _ ≤ _; simp; omega
                  have hjz := joinP_size ⟨#[38]⟩ (uniqL ((List.range m).map F)) rfl HU.out.2.2
                  have hjs : (joinP ⟨#[38]⟩ (uniqL ((List.range m).map F))).size ≤ 1001000 := by have := HU.out; omega
                  have HRQ : Hid (RV = (⟨#[83]⟩ : ByteArray) ++ vnB i ++ joinP ⟨#[38]⟩ (uniqL ((List.range m).map F))) := HQ.out
                  have hxi := vn_at i HI3.out
                  have hvz : ((⟨#[83]⟩ : ByteArray) ++ vnB i).size = 2 := by rw [ByteArray.size_append]; rfl
                  have hvs : (vnB i).size = 1 := rfl
                  have hs83 : (⟨#[83]⟩ : ByteArray).size = 1 := rfl
                  have hilen : (⟨#[97, 98, 99]⟩ : ByteArray).size = 3 := rfl
                  have hwi : IntKind.i64.wrap ((i : Int) + 1) = (i : Int) + 1 := IntWalk.i64_in _ (by omega)
                  have hi0 : (0 : Int) ≤ (i : Int) := by omega
                  have hi1 : (i : Int) + 1 ≤ 3 := by omega
                  have hsl : ∀ wx, (Instr.slice 9 (.string ⟨#[97, 98, 99]⟩) (some (.int .i64 (i : Int))) (some (.int .i64 ((i : Int) + 1))) none).run Tryz.prog wx = .ok (.string (vnB i)) wx := fun wx => (run_slice_string wx _ ⟨#[97, 98, 99]⟩ _ _ _ _ Tryz.underlying9 (by omega) (by omega) (by rw [hilen]; omega)).trans (by rw [Int.toNat_natCast, show ((i : Int) + 1).toNat = i + 1 by omega, hxi])
                  obtain ⟨lg, lcap, rfl, _, hlg, hlc1, hlc2, hlcc⟩ := HS.out.cells
                  have HEA := Lib.hid (fun (W : World) (hb : Below wj.heap.size wj W) => l6Each_any ((List.range m).map F) lg lcap W hlc1 hlc2 HPL.out (Nat.lt_of_lt_of_le hlg hb.size) (fun j hj => (hb.cell (p := ⟨lg, j, none⟩) hlg).trans (hlcc j hj)))
                  have HJN := Lib.hid (fun (g cap : Nat) (W : World) h1 h2 h3 => l2Join_any ⟨#[38]⟩ (uniqL ((List.range m).map F)) g cap W rfl (.inl rfl) HU.out.2.1 HU.out.1 h1 h2 h3)
                  have HO := Lib.hid HMJ.out.old
                  clear hlc1 hlc2 hlcc hjz HS HMJ HMI HQ HSF HFX HRS
                  generalize (List.range m).map F = PS at *
                  generalize PS.length = pl at *
                  generalize uniqL PS = US at *
                  generalize joinP ⟨#[38]⟩ US = JS at *
                  generalize vnB i = vi at *
                  have hz9 : ¬ 9223372036854775807 < ((⟨#[83]⟩ : ByteArray) ++ vi).size + JS.size := by rw [hvz]; omega
                  have hz8 : ¬ 9223372036854775807 < 2 + JS.size := by omega
                  go_wp2_with fail
                  go_region_held3 (fun W => True) (exact trivial)
                    (first
                    | (go_at_call 133; refine (HJN.out _ _ _ HB1.out.2.1 HB1.out.2.2.1 HB1.out.2.2.2).mono ?_; rintro e w2 ⟨rfl, hb2⟩; have HB2 : Hid (Below w.heap.size w w2) := HB1.out.1.trans (hb2.mono HB1.out.1.size); clear hb2)
                    | (go_at_call 134; refine (HEA.out _ (Below.refl _ _).drew).mono ?_; rintro e w1 ⟨v1, rfl, ho1⟩; obtain ⟨ug, ucap, rfl, _, _, q1, q2, q3⟩ := ho1.cells; have HB1 : Hid (Below w.heap.size w w1 ∧ US.length ≤ ucap ∧ ucap ≤ maxLen ∧ ∀ j (hj : j < US.length), w1.cell? ⟨ug, j, none⟩ = some (.string US[j])) := ⟨HO.out.trans (((Below.refl _ _).drew.trans ho1.old).mono HO.out.size), q1, q2, q3⟩; clear ho1 q1 q2 q3))
                  all_goals
                    go_wp2_with fail
                    go_ret
                    exact ⟨by rw [HRQ.out]; rfl, HB2.out⟩
            · have HN2 : Hid (MVF (x + 1) = none) := HMISS.out x HN.out (by
                cases hb : beatA (stOf n S R) (stOf m S2 R2) t L M i x
                · rfl
                · obtain ⟨j, hj, h⟩ := HR.out.1 rfl
                  rw [(HBT.out x).1 hb j hj] at h; cases h)
              go_wp2_with fail
              go_roundw
              case rel => exact ⟨x + 1, by omega, by go_num, HMI, HN2⟩
              case measure => simp [intOf]; omega
    · obtain rfl : x = n := by omega
      have HE := Lib.hid (HEND.out HN.out)
      have HO := Lib.hid HM.out.old
      go_wp2_with fail
      go_ret
      exact ⟨by rw [HE.out]; rfl, HO.out⟩
end Go.Proofs.YtnhlhjehocngcaaGreatDoor
