/- OrderReply of the program and of the reference: a relation that says what is returned, that it fixes the result, and a contract for each. Conditions: none but that the integers fit their kind. -/
import Derived.Test.YtagnikcnakdehaaDoorOrd
namespace Go.Proofs.YtagnikcnakdehaaDoor
open Go.RowKit

def bothB (n m r x y : Int) : Bool := alikeB x y (r - 1) && alikeB (n - 1 - x) (m - 1 - y) (r - 1)
def fitsB (n m r x y : Int) : Bool := inB y 0 (m - 1) && bothB n m r x y

/-- What a reply is. -/
def ReplyIs (n m r x y : Int) (ok : Bool) : Prop :=
  (ok = true ∧ 0 ≤ y ∧ y ≤ enough (r - 1) ∧ fitsB n m r x y = true ∧ ∀ z, 0 ≤ z → z < y → fitsB n m r x z = false) ∨
  ((∀ z, 0 ≤ z → z ≤ enough (r - 1) → fitsB n m r x z = false) ∧
    ((ok = true ∧ y = m - n + x ∧ enough (r - 1) < y ∧ fitsB n m r x y = true) ∨
     (ok = false ∧ y = 0 ∧ ¬ (enough (r - 1) < m - n + x ∧ fitsB n m r x (m - n + x) = true))))

theorem ReplyIs.one {n m r x y y' : Int} {ok ok' : Bool} (h : ReplyIs n m r x y ok) (h' : ReplyIs n m r x y' ok') : y = y' ∧ ok = ok' := by
  rcases h with ⟨rfl, a0, a1, a2, a3⟩ | ⟨a, b⟩
  · rcases h' with ⟨rfl, c0, c1, c2, c3⟩ | ⟨c, d⟩
    · rcases Int.lt_trichotomy y y' with h | h | h
      · have := c3 y a0 h; rw [a2] at this; cases this
      · exact ⟨h, rfl⟩
      · have := a3 y' c0 h; rw [c2] at this; cases this
    · have := c y a0 a1; rw [a2] at this; cases this
  · rcases h' with ⟨rfl, c0, c1, c2, c3⟩ | ⟨c, d⟩
    · have := a y' c0 c1; rw [c2] at this; cases this
    · rcases b with ⟨rfl, rfl, b1, b2⟩ | ⟨rfl, rfl, b1⟩
      · rcases d with ⟨rfl, rfl, _, _⟩ | ⟨rfl, rfl, d1⟩
        · exact ⟨rfl, rfl⟩
        · exact absurd ⟨b1, b2⟩ d1
      · rcases d with ⟨rfl, rfl, d1, d2⟩ | ⟨rfl, rfl, _⟩
        · exact absurd ⟨d1, d2⟩ b1
        · exact ⟨rfl, rfl⟩

def okArgs (n m r x : Int) : Bool := readyB n m r && decide (1 ≤ r) && inB x 0 (n - 1)

theorem fits_any (n m r x y : Int) (pm px pr pn : Addr) (w : World) (hm : w.cell? pm = some (.int .i64 m)) (hx : w.cell? px = some (.int .i64 x)) (hr : w.cell? pr = some (.int .i64 r)) (hn : w.cell? pn = some (.int .i64 n))
    (n0 : 0 ≤ n) (n1 : n ≤ 1000000) (m0 : 0 ≤ m) (m1 : m ≤ 1000000) (r0 : 1 ≤ r) (r1 : r ≤ 10) (x0 : 0 ≤ x) (x1 : x < n) (y0 : -2000000 ≤ y) (y1 : y ≤ 2000000) :
    Calls Tryd.prog 84 #[.int .i64 y, .pointer (some pm), .pointer (some px), .pointer (some pr), .pointer (some pn)] w fun e w' => e = .returned (.bool (fitsB n m r x y)) ∧ w = w' := by
  by_cases h0 : 0 ≤ y
  · by_cases h1 : y < m
    · have HI := Lib.hid (inB_true (n := y) (lo := 0) (hi := m - 1) h0 (by omega))
      cases ha : alikeB x y (r - 1)
      · have Ha := Lib.hid ha; clear ha
        go_enter Tryd.func84, Tryd.ntmps84
        go_wp2_with fail
        refine (ordersAlike_is _ (by omega) (by omega) Ha.out).mono ?_; rintro e w' ⟨rfl, rfl⟩
        go_wp2
        go_ret
        exact ⟨ret_bool (by simp [fitsB, bothB, HI.out, Ha.out]), rfl⟩
      · have Ha := Lib.hid ha; clear ha
        go_enter Tryd.func84, Tryd.ntmps84
        go_wp2_with fail
        refine (ordersAlike_is _ (by omega) (by omega) Ha.out).mono ?_; rintro e w' ⟨rfl, rfl⟩
        go_wp2_with fail
        refine (ordersAlike_any _ _ _ _ (by omega) (by omega)).mono ?_; rintro e w' ⟨rfl, rfl⟩
        go_wp2
        go_ret
        exact ⟨ret_bool (by simp [fitsB, bothB, HI.out, Ha.out]), rfl⟩
    · have HI := Lib.hid (inB_hi (n := y) (lo := 0) (hi := m - 1) (by omega))
      go_enter Tryd.func84, Tryd.ntmps84
      go_wp2
      go_ret
      exact ⟨ret_bool (by simp [fitsB, HI.out]), rfl⟩
  · have HI := Lib.hid (inB_lo (n := y) (lo := 0) (hi := m - 1) h0)
    go_enter Tryd.func84, Tryd.ntmps84
    go_wp2
    go_ret
    exact ⟨ret_bool (by simp [fitsB, HI.out]), rfl⟩
theorem fits_is {b : Bool} {n m r x y : Int} (pm px pr pn : Addr) (w : World) (h : fitsB n m r x y = b) (hm : w.cell? pm = some (.int .i64 m)) (hx : w.cell? px = some (.int .i64 x)) (hr : w.cell? pr = some (.int .i64 r)) (hn : w.cell? pn = some (.int .i64 n))
    (n0 : 0 ≤ n) (n1 : n ≤ 1000000) (m0 : 0 ≤ m) (m1 : m ≤ 1000000) (r0 : 1 ≤ r) (r1 : r ≤ 10) (x0 : 0 ≤ x) (x1 : x < n) (y0 : -2000000 ≤ y) (y1 : y ≤ 2000000) :
    Calls Tryd.prog 84 #[.int .i64 y, .pointer (some pm), .pointer (some px), .pointer (some pr), .pointer (some pn)] w fun e w' => e = .returned (.bool b) ∧ w = w' := by
  subst h; exact fits_any n m r x y pm px pr pn w hm hx hr hn n0 n1 m0 m1 r0 r1 x0 x1 y0 y1

/-- What a call of OrderReply leaves: it returned what a reply is, or (0, false) for other arguments, and has changed nothing that was there. -/
def ReplyPost (n m r x : Int) (w : World) (e : Ending) (w' : World) : Prop :=
  ∃ y ok, e = .returned (.tuple #[.int .i64 y, .bool ok]) ∧ (okArgs n m r x = true → ReplyIs n m r x y ok) ∧ (okArgs n m r x = false → y = 0 ∧ ok = false) ∧ Below w.heap.size w w'
theorem ReplyPost.mk {n m r x : Int} {w w' : World} {y : Int} {ok : Bool} {e : Ending} (he : e = .returned (.tuple #[.int .i64 y, .bool ok])) (h : okArgs n m r x = true) (hr : ReplyIs n m r x y ok) (hb : Below w.heap.size w w') : ReplyPost n m r x w e w' :=
  ⟨y, ok, he, fun _ => hr, fun h' => (by rw [h] at h'; cases h'), hb⟩
theorem ReplyPost.no {n m r x : Int} {w w' : World} {e : Ending} (he : e = .returned (.tuple #[.int .i64 0, .bool false])) (h : okArgs n m r x = false) (hb : Below w.heap.size w w') : ReplyPost n m r x w e w' :=
  ⟨0, false, he, fun h' => (by rw [h] at h'; cases h'), fun _ => ⟨rfl, rfl⟩, hb⟩
theorem okArgs_true {n m r x : Int} : okArgs n m r x = true ↔ (0 ≤ n ∧ n ≤ 1000000) ∧ (0 ≤ m ∧ m ≤ 1000000) ∧ (1 ≤ r ∧ r ≤ 10) ∧ (0 ≤ x ∧ x < n) := by
  simp only [okArgs, readyB, Bool.and_eq_true, inB_iff, decide_eq_true_eq]
  omega

theorem enough_shift {r : Int} (r0 : 1 ≤ r) (r1 : r ≤ 10) : wrap64 (2 ^ (r.toNat - 1)) = enough (r - 1) + 1 := by
  rcases rounds_cases (by omega) r1 with rfl | rfl | rfl | rfl | rfl | rfl | rfl | rfl | rfl | rfl | rfl
  · omega
  all_goals decide +kernel

theorem implOrderReply_yes (n m r x : Int) (w : World) (n0 : 0 ≤ n) (n1 : n ≤ 1000000) (m0 : 0 ≤ m) (m1 : m ≤ 1000000) (r0 : 1 ≤ r) (r1 : r ≤ 10) (x0 : 0 ≤ x) (x1 : x < n) :
    Calls Tryd.prog 32 #[.int .i64 n, .int .i64 m, .int .i64 r, .int .i64 x] w (ReplyPost n m r x w) := by
  have HOK := Lib.hid (okArgs_true.2 ⟨⟨n0, n1⟩, ⟨m0, m1⟩, ⟨r0, r1⟩, ⟨x0, x1⟩⟩)
  have HN := Lib.hid (inB_true n0 n1)
  have HM := Lib.hid (inB_true m0 m1)
  obtain ⟨E0, E1⟩ := enough_bound (r := r - 1) (by omega) (by omega)
  have hs := enough_shift r0 r1
  generalize hE : enough (r - 1) = E at *
  have HE := Lib.hid hE; clear hE
  go_enter Tryd.func32, Tryd.ntmps32
  go_wp2_with fail
  refine (isLength_is _ HN.out).mono ?_; rintro e w' ⟨rfl, rfl⟩
  go_wp2_with fail
  refine (isLength_is _ HM.out).mono ?_; rintro e w' ⟨rfl, rfl⟩
  go_wp2
  clear hs
  go_loop [12] (fun v => ∃ k : Nat, (k : Int) ≤ E + 1 ∧ v = .int .i64 k ∧ Hid (∀ z, 0 ≤ z → z < (k : Int) → fitsB n m r x z = false)) (fun v => E.toNat + 1 - (intOf v).toNat)
  case atStart => exact ⟨0, by omega, rfl, by intro z h h'; simp at h'; omega⟩
  case round =>
    obtain ⟨k, hk, rfl, HK⟩ := hrel
    by_cases hlt : (k : Int) ≤ E
    · cases hf : fitsB n m r x k
      · have Hf := Lib.hid hf; clear hf
        go_wp2_with fail
        refine (fits_is _ _ _ _ _ Hf.out (by go_simp) (by go_simp) (by go_simp) (by go_simp) n0 n1 m0 m1 r0 r1 x0 x1 (by omega) (by omega)).mono ?_; rintro e w' ⟨rfl, rfl⟩
        go_wp2
        go_round
        case rel =>
          refine ⟨k + 1, by omega, by go_num, fun z h h' => ?_⟩
          by_cases hz : z < k
          · exact HK.out z h hz
          · obtain rfl : z = k := by omega
            exact Hf.out
        case measure => simp [intOf]; omega
      · have Hf := Lib.hid hf; clear hf
        go_wp2_with fail
        refine (fits_is _ _ _ _ _ Hf.out (by go_simp) (by go_simp) (by go_simp) (by go_simp) n0 n1 m0 m1 r0 r1 x0 x1 (by omega) (by omega)).mono ?_; rintro e w' ⟨rfl, rfl⟩
        go_wp2
        go_ret2
        refine ReplyPost.mk rfl HOK.out ?_ ?_
        · refine .inl ⟨rfl, by omega, by rw [HE.out]; exact hlt, Hf.out, HK.out⟩
        · exact ((((Below.refl _ _).alloc (Nat.le_refl _) _).alloc (by simp) _).alloc (by simp; omega) _).alloc (by simp; omega) _
    · have HZ : Hid (∀ z, 0 ≤ z → z ≤ enough (r - 1) → fitsB n m r x z = false) := by
        intro z h h'
        rw [HE.out] at h'
        exact HK.out z h (by omega)
      by_cases hy : E < m - n + x
      · cases hf : fitsB n m r x (m - n + x)
        · have Hf := Lib.hid hf; clear hf
          go_wp2_with fail
          refine (fits_is _ _ _ _ _ Hf.out (by go_simp) (by go_simp) (by go_simp) (by go_simp) n0 n1 m0 m1 r0 r1 x0 x1 (by omega) (by omega)).mono ?_; rintro e w' ⟨rfl, rfl⟩
          go_wp2
          go_ret2
          refine ReplyPost.mk rfl HOK.out ?_ ?_
          · refine .inr ⟨HZ.out, .inr ⟨rfl, rfl, fun h => ?_⟩⟩
            rw [Hf.out] at h
            cases h.2
          · exact ((((Below.refl _ _).alloc (Nat.le_refl _) _).alloc (by simp) _).alloc (by simp; omega) _).alloc (by simp; omega) _
        · have Hf := Lib.hid hf; clear hf
          go_wp2_with fail
          refine (fits_is _ _ _ _ _ Hf.out (by go_simp) (by go_simp) (by go_simp) (by go_simp) n0 n1 m0 m1 r0 r1 x0 x1 (by omega) (by omega)).mono ?_; rintro e w' ⟨rfl, rfl⟩
          go_wp2
          go_ret2
          refine ReplyPost.mk rfl HOK.out ?_ ?_
          · exact .inr ⟨HZ.out, .inl ⟨rfl, rfl, by rw [HE.out]; exact hy, Hf.out⟩⟩
          · exact ((((Below.refl _ _).alloc (Nat.le_refl _) _).alloc (by simp) _).alloc (by simp; omega) _).alloc (by simp; omega) _
      · go_wp2_with fail
        go_ret2
        refine ReplyPost.mk rfl HOK.out ?_ ?_
        · refine .inr ⟨HZ.out, .inr ⟨rfl, rfl, fun h => ?_⟩⟩
          rw [HE.out] at h
          exact absurd h.1 (by omega)
        · exact ((((Below.refl _ _).alloc (Nat.le_refl _) _).alloc (by simp) _).alloc (by simp; omega) _).alloc (by simp; omega) _

theorem implOrderReply_no (n m r x : Int) (w : World) (h : okArgs n m r x = false) :
    Calls Tryd.prog 32 #[.int .i64 n, .int .i64 m, .int .i64 r, .int .i64 x] w (ReplyPost n m r x w) := by
  have HOK := Lib.hid h
  have h' : ¬ ((0 ≤ n ∧ n ≤ 1000000) ∧ (0 ≤ m ∧ m ≤ 1000000) ∧ (1 ≤ r ∧ r ≤ 10) ∧ (0 ≤ x ∧ x < n)) := by
    rw [← okArgs_true, h]; simp
  have HF := Lib.hid h'
  clear h h'
  cases hn : inB n 0 1000000
  · have Hn := Lib.hid hn; clear hn
    go_enter Tryd.func32, Tryd.ntmps32
    go_wp2_with fail
    refine (isLength_is _ Hn.out).mono ?_; rintro e w' ⟨rfl, rfl⟩
    go_wp2
    go_ret2
    refine ReplyPost.no rfl HOK.out ?_
    exact ((((Below.refl _ _).alloc (Nat.le_refl _) _).alloc (by simp) _).alloc (by simp; omega) _).alloc (by simp; omega) _
  · obtain ⟨n0, n1⟩ := inB_iff.1 hn
    have Hn := Lib.hid hn; clear hn
    cases hm : inB m 0 1000000
    · have Hm := Lib.hid hm; clear hm
      go_enter Tryd.func32, Tryd.ntmps32
      go_wp2_with fail
      refine (isLength_is _ Hn.out).mono ?_; rintro e w' ⟨rfl, rfl⟩
      go_wp2_with fail
      refine (isLength_is _ Hm.out).mono ?_; rintro e w' ⟨rfl, rfl⟩
      go_wp2
      go_ret2
      refine ReplyPost.no rfl HOK.out ?_
      exact ((((Below.refl _ _).alloc (Nat.le_refl _) _).alloc (by simp) _).alloc (by simp; omega) _).alloc (by simp; omega) _
    · obtain ⟨m0, m1⟩ := inB_iff.1 hm
      have Hm := Lib.hid hm; clear hm
      have hf := HF.out
      have hor : r < 1 ∨ (1 ≤ r ∧ 10 < r) ∨ (1 ≤ r ∧ r ≤ 10 ∧ x < 0) ∨ (1 ≤ r ∧ r ≤ 10 ∧ 0 ≤ x ∧ n ≤ x) := by omega
      clear hf
      rcases hor with h1 | ⟨h1, h2⟩ | ⟨h1, h2, h3⟩ | ⟨h1, h2, h3, h4⟩
      all_goals
        go_enter Tryd.func32, Tryd.ntmps32
        go_wp2_with fail
        refine (isLength_is _ Hn.out).mono ?_; rintro e w' ⟨rfl, rfl⟩
        go_wp2_with fail
        refine (isLength_is _ Hm.out).mono ?_; rintro e w' ⟨rfl, rfl⟩
        go_wp2
        go_ret2
        refine ReplyPost.no rfl HOK.out ?_
        exact ((((Below.refl _ _).alloc (Nat.le_refl _) _).alloc (by simp) _).alloc (by simp; omega) _).alloc (by simp; omega) _
theorem implOrderReply_any (n m r x : Int) (w : World) :
    Calls Tryd.prog 32 #[.int .i64 n, .int .i64 m, .int .i64 r, .int .i64 x] w (ReplyPost n m r x w) := by
  cases h : okArgs n m r x
  · exact implOrderReply_no n m r x w h
  · obtain ⟨⟨n0, n1⟩, ⟨m0, m1⟩, ⟨r0, r1⟩, ⟨x0, x1⟩⟩ := okArgs_true.1 h
    exact implOrderReply_yes n m r x w n0 n1 m0 m1 r0 r1 x0 x1

theorem fitsB_of {n m r x y : Int} (h0 : 0 ≤ y) (h1 : y < m) : fitsB n m r x y = bothB n m r x y := by
  simp [fitsB, inB_true h0 (show y ≤ m - 1 by omega)]
theorem fitsB_no {n m r x y : Int} (h1 : ¬ y < m) : fitsB n m r x y = false := by
  simp [fitsB, inB_hi (n := y) (lo := 0) (show ¬ y ≤ m - 1 by omega)]
theorem both_no1 {n m r x y : Int} (h : alikeB x y (r - 1) = false) : bothB n m r x y = false := by simp [bothB, h]
theorem both_no2 {n m r x y : Int} (h : alikeB (n - 1 - x) (m - 1 - y) (r - 1) = false) : bothB n m r x y = false := by simp [bothB, h]
theorem both_yes {n m r x y : Int} (h : alikeB x y (r - 1) = true) (h' : alikeB (n - 1 - x) (m - 1 - y) (r - 1) = true) : bothB n m r x y = true := by simp [bothB, h, h']

theorem specOrderReply_yes (n m r x : Int) (w : World) (n0 : 0 ≤ n) (n1 : n ≤ 1000000) (m0 : 0 ≤ m) (m1 : m ≤ 1000000) (r0 : 1 ≤ r) (r1 : r ≤ 10) (x0 : 0 ≤ x) (x1 : x < n) :
    Calls Tryd.prog 33 #[.int .i64 n, .int .i64 m, .int .i64 r, .int .i64 x] w (ReplyPost n m r x w) := by
  have hok := okArgs_true.2 ⟨⟨n0, n1⟩, ⟨m0, m1⟩, ⟨r0, r1⟩, ⟨x0, x1⟩⟩
  have HR : Hid (readyB n m r = true) := by
    simp only [okArgs, Bool.and_eq_true] at hok
    exact hok.1.1
  have HX := Lib.hid (inB_true (n := x) (lo := 0) (hi := n - 1) x0 (by omega))
  have HOK := Lib.hid hok; clear hok
  obtain ⟨E0, E1⟩ := enough_bound (r := r - 1) (by omega) (by omega)
  have hs := enough_shift r0 r1
  generalize hE : enough (r - 1) = E at *
  have HE := Lib.hid hE; clear hE
  go_enter Tryd.func33, Tryd.ntmps33
  go_wp2_with fail
  refine (l13Ready_is _ HR.out).mono ?_; rintro e w' ⟨rfl, rfl⟩
  go_wp2_with fail
  refine (l1In_is _ HX.out).mono ?_; rintro e w' ⟨rfl, rfl⟩
  go_wp2
  clear hs
  go_loop [11] (fun v => ∃ k : Nat, (k : Int) ≤ E + 1 ∧ v = .int .i64 k ∧ Hid (∀ z, 0 ≤ z → z < (k : Int) → fitsB n m r x z = false)) (fun v => E.toNat + 1 - (intOf v).toNat)
  case atStart => exact ⟨0, by omega, rfl, by intro z h h'; simp at h'; omega⟩
  case round =>
    obtain ⟨k, hk, rfl, HK⟩ := hrel
    by_cases hlt : (k : Int) ≤ E ∧ (k : Int) < m
    · obtain ⟨hlt, hlm⟩ := hlt
      have HS : Hid (bothB n m r x k = false → ∀ z, 0 ≤ z → z < ((k + 1 : Nat) : Int) → fitsB n m r x z = false) := by
        intro hb z h h'
        by_cases hz : z < k
        · exact HK.out z h hz
        · obtain rfl : z = k := by omega
          rw [fitsB_of (by omega) hlm]; exact hb
      cases hf : alikeB x k (r - 1)
      · have Hf := Lib.hid hf; clear hf
        go_wp2_with fail
        refine (l13Alike_is _ (by omega) (by omega) Hf.out).mono ?_; rintro e w' ⟨rfl, rfl⟩
        go_wp2
        go_round
        case rel => exact ⟨k + 1, by omega, by go_num, HS.out (both_no1 Hf.out)⟩
        case measure => simp [intOf]; omega
      · have Hf := Lib.hid hf; clear hf
        cases hg : alikeB (n - 1 - x) (m - 1 - k) (r - 1)
        · have Hg := Lib.hid hg; clear hg
          go_wp2_with fail
          refine (l13Alike_is _ (by omega) (by omega) Hf.out).mono ?_; rintro e w' ⟨rfl, rfl⟩
          go_wp2_with fail
          refine (l13Alike_is _ (by omega) (by omega) Hg.out).mono ?_; rintro e w' ⟨rfl, rfl⟩
          go_wp2
          go_round
          case rel => exact ⟨k + 1, by omega, by go_num, HS.out (both_no2 Hg.out)⟩
          case measure => simp [intOf]; omega
        · have Hg := Lib.hid hg; clear hg
          go_wp2_with fail
          refine (l13Alike_is _ (by omega) (by omega) Hf.out).mono ?_; rintro e w' ⟨rfl, rfl⟩
          go_wp2_with fail
          refine (l13Alike_is _ (by omega) (by omega) Hg.out).mono ?_; rintro e w' ⟨rfl, rfl⟩
          go_wp2
          go_ret2
          refine ReplyPost.mk rfl HOK.out ?_ (Below.refl _ _)
          exact .inl ⟨rfl, by omega, by rw [HE.out]; exact hlt, by rw [fitsB_of (by omega) hlm]; exact both_yes Hf.out Hg.out, HK.out⟩
    · have HZ : Hid (∀ z, 0 ≤ z → z ≤ enough (r - 1) → fitsB n m r x z = false) := by
        intro z h h'
        rw [HE.out] at h'
        by_cases hz : z < k
        · exact HK.out z h hz
        · exact fitsB_no (by omega)
      have hor : m ≤ (k : Int) ∨ ((k : Int) < m ∧ E < (k : Int)) := by omega
      clear hlt
      by_cases hy : E < m - n + x
      · have HY : Hid (fitsB n m r x (m - n + x) = bothB n m r x (m - n + x)) := fitsB_of (by omega) (by omega)
        cases hf : alikeB x (m - n + x) (r - 1)
        · have Hf := Lib.hid hf; clear hf
          obtain ⟨h1, h2⟩ : ((k : Int) < m ∧ E < (k : Int)) := by omega
          all_goals
            go_wp2_with fail
            refine (l13Alike_is _ (by omega) (by omega) Hf.out).mono ?_; rintro e w' ⟨rfl, rfl⟩
            go_wp2
            go_ret2
            refine ReplyPost.mk rfl HOK.out ?_ (Below.refl _ _)
            refine .inr ⟨HZ.out, .inr ⟨rfl, rfl, fun h => ?_⟩⟩
            rw [HY.out, both_no1 Hf.out] at h
            cases h.2
        · have Hf := Lib.hid hf; clear hf
          cases hg : alikeB (n - 1 - x) (m - 1 - (m - n + x)) (r - 1)
          · have Hg := Lib.hid hg; clear hg
            obtain ⟨h1, h2⟩ : ((k : Int) < m ∧ E < (k : Int)) := by omega
            all_goals
              go_wp2_with fail
              refine (l13Alike_is _ (by omega) (by omega) Hf.out).mono ?_; rintro e w' ⟨rfl, rfl⟩
              go_wp2_with fail
              refine (l13Alike_is _ (by omega) (by omega) Hg.out).mono ?_; rintro e w' ⟨rfl, rfl⟩
              go_wp2
              go_ret2
              refine ReplyPost.mk rfl HOK.out ?_ (Below.refl _ _)
              refine .inr ⟨HZ.out, .inr ⟨rfl, rfl, fun h => ?_⟩⟩
              rw [HY.out, both_no2 Hg.out] at h
              cases h.2
          · have Hg := Lib.hid hg; clear hg
            obtain ⟨h1, h2⟩ : ((k : Int) < m ∧ E < (k : Int)) := by omega
            all_goals
              go_wp2_with fail
              refine (l13Alike_is _ (by omega) (by omega) Hf.out).mono ?_; rintro e w' ⟨rfl, rfl⟩
              go_wp2_with fail
              refine (l13Alike_is _ (by omega) (by omega) Hg.out).mono ?_; rintro e w' ⟨rfl, rfl⟩
              go_wp2
              go_ret2
              refine ReplyPost.mk rfl HOK.out ?_ (Below.refl _ _)
              exact .inr ⟨HZ.out, .inl ⟨rfl, rfl, by rw [HE.out]; exact hy, by rw [HY.out]; exact both_yes Hf.out Hg.out⟩⟩
      · rcases hor with h1 | ⟨h1, h2⟩
        all_goals
          go_wp2_with fail
          go_ret2
          refine ReplyPost.mk rfl HOK.out ?_ (Below.refl _ _)
          refine .inr ⟨HZ.out, .inr ⟨rfl, rfl, fun h => ?_⟩⟩
          rw [HE.out] at h
          exact absurd h.1 (by omega)

theorem specOrderReply_no (n m r x : Int) (w : World) (h : okArgs n m r x = false) :
    Calls Tryd.prog 33 #[.int .i64 n, .int .i64 m, .int .i64 r, .int .i64 x] w (ReplyPost n m r x w) := by
  have HOK := Lib.hid h
  cases hn : readyB n m r
  · have Hn := Lib.hid hn; clear hn h
    go_enter Tryd.func33, Tryd.ntmps33
    go_wp2_with fail
    refine (l13Ready_is _ Hn.out).mono ?_; rintro e w' ⟨rfl, rfl⟩
    go_wp2
    go_ret2
    exact ReplyPost.no rfl HOK.out (Below.refl _ _)
  · obtain ⟨n0, n1⟩ := readyB_n hn
    have Hn := Lib.hid hn
    by_cases h1 : 1 ≤ r
    · have hx : inB x 0 (n - 1) = false := by simpa [okArgs, hn, h1] using h
      have Hx := Lib.hid hx; clear hx hn h
      go_enter Tryd.func33, Tryd.ntmps33
      go_wp2_with fail
      refine (l13Ready_is _ Hn.out).mono ?_; rintro e w' ⟨rfl, rfl⟩
      go_wp2_with fail
      refine (l1In_is _ Hx.out).mono ?_; rintro e w' ⟨rfl, rfl⟩
      go_wp2
      go_ret2
      exact ReplyPost.no rfl HOK.out (Below.refl _ _)
    · clear hn h
      go_enter Tryd.func33, Tryd.ntmps33
      go_wp2_with fail
      refine (l13Ready_is _ Hn.out).mono ?_; rintro e w' ⟨rfl, rfl⟩
      go_wp2
      go_ret2
      exact ReplyPost.no rfl HOK.out (Below.refl _ _)
theorem specOrderReply_any (n m r x : Int) (w : World) :
    Calls Tryd.prog 33 #[.int .i64 n, .int .i64 m, .int .i64 r, .int .i64 x] w (ReplyPost n m r x w) := by
  cases h : okArgs n m r x
  · exact specOrderReply_no n m r x w h
  · obtain ⟨⟨n0, n1⟩, ⟨m0, m1⟩, ⟨r0, r1⟩, ⟨x0, x1⟩⟩ := okArgs_true.1 h
    exact specOrderReply_yes n m r x w n0 n1 m0 m1 r0 r1 x0 x1

theorem ReplyPost.same {n m r x : Int} {w1 w2 w1' w2' : World} {e1 e2 : Ending} (h1 : ReplyPost n m r x w1 e1 w1') (h2 : ReplyPost n m r x w2 e2 w2') :
    ∃ y ok, e1 = .returned (.tuple #[.int .i64 y, .bool ok]) ∧ e2 = .returned (.tuple #[.int .i64 y, .bool ok]) ∧ (okArgs n m r x = true → ReplyIs n m r x y ok) ∧ (okArgs n m r x = false → y = 0 ∧ ok = false) ∧ Below w1.heap.size w1 w1' ∧ Below w2.heap.size w2 w2' := by
  obtain ⟨y, ok, he, hy, hn, hb⟩ := h1
  obtain ⟨y', ok', he', hy', hn', hb'⟩ := h2
  cases h : okArgs n m r x
  · obtain ⟨rfl, rfl⟩ := hn h
    obtain ⟨rfl, rfl⟩ := hn' h
    exact ⟨_, _, he, he', fun h' => (by cases h'), fun _ => ⟨rfl, rfl⟩, hb, hb'⟩
  · obtain ⟨rfl, rfl⟩ := (hy h).one (hy' h)
    exact ⟨_, _, he, he', fun _ => hy h, fun h' => (by cases h'), hb, hb'⟩

end Go.Proofs.YtagnikcnakdehaaDoor
