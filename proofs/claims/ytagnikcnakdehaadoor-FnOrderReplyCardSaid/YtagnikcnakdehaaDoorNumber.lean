/- The reference's l5Number: the number of a description, which is added if it is new. Conditions: the table is one, it is not great, the text is not long. -/
import Derived.Test.YtagnikcnakdehaaDoorTbl
import Derived.Deep.RegionLaw
import Derived.Deep.AppendLies
namespace Go.Proofs.YtagnikcnakdehaaDoor
open Go.RowKit
set_option linter.unusedVariables false

/-- What l5Number leaves. -/
def Numbered (gL gC : Nat) (F : Nat → Prop) (D : List (List UInt8)) (s : List UInt8) (w : World) (e : Ending) (w' : World) : Prop :=
  ∃ (n : Nat) (F' : Nat → Prop) (vs' : Array Value) (D' : List (List UInt8)), e = .returned (.int .i64 (n : Int)) ∧ Tbl w' gL gC F' vs' D' ∧ (D' = D ∨ D' = D ++ [s]) ∧ D'[n]? = some s ∧ Off F w w' ∧ ∀ b, F' b → F b ∨ w.heap.size ≤ b

theorem bucket_find {D : List (List UInt8)} (hD : D.Nodup) {k i : Nat} (hi : i < (bucket D k).length) : D[(bucket D k)[i].2]? = some (bucket D k)[i].1 := (bucket_mem.1 (List.getElem_mem hi)).1
theorem bucket_none {D : List (List UInt8)} {s : List UInt8} (h : ∀ i (hi : i < (bucket D (hashL s)).length), (bucket D (hashL s))[i].1 ≠ s) : s ∉ D := by
  intro hs
  obtain ⟨n, hn⟩ := List.mem_iff_getElem?.1 hs
  have hm : (s, n) ∈ bucket D (hashL s) := bucket_mem.2 ⟨hn, rfl⟩
  obtain ⟨i, hi, he⟩ := List.mem_iff_getElem.1 hm
  exact h i hi (by rw [he])
theorem txt_toList (l : List UInt8) : (txt l).data.toList = l := by simp [txt]
theorem txt_eq (l m : List UInt8) : ((txt l).toList == (txt m).toList) = decide (l = m) := by
  rw [ByteArray.toList_eq, ByteArray.toList_eq, txt_toList, txt_toList, Bool.eq_iff_iff, beq_iff_eq, decide_eq_true_eq]

theorem Tbl.cellL {w : World} {gL gC : Nat} {F : Nat → Prop} {vs : Array Value} {D : List (List UInt8)} (h : Tbl w gL gC F vs D) (k : Nat) (hk : k < 997) : w.cell? ⟨gL, k, none⟩ = some (vs.getD k undef) := by
  rw [cell_of_row w gL k vs _ (0, 0) h.lists, Array.getD_eq_getD_getElem?]
  have : k < vs.size := by rw [h.size]; exact hk
  simp [this]
theorem Tbl.cellC {w : World} {gL gC : Nat} {F : Nat → Prop} {vs : Array Value} {D : List (List UInt8)} (h : Tbl w gL gC F vs D) : w.cell? ⟨gC, 0, none⟩ = some (.int .i64 (D.length : Int)) ∧ w.frozen? ⟨gC, 0, none⟩ = false := by
  constructor <;> simp [World.cell?, World.frozen?, h.count]

theorem number_end {w w2 w3 : World} {gL gC : Nat} {F : Nat → Prop} {vs : Array Value} {D : List (List UInt8)} {s : List UInt8} {v : Value} {E : List (List UInt8 × Nat)} {o : Obj} {gg gcap : Nat}
    (ht : Tbl w gL gC F vs D) (hno : s ∉ D) (hoff : Off F w w2) (hgc : w2.heap[gC]? = some (.cells #[.int .i64 ((D.length : Int) + 1)] 3 (0, 0)))
    (hblk : ∀ b, b < w.heap.size → b ≠ gC → w2.heap[b]? = w.heap[b]?) (hv : vs.getD (hashL s) undef = v) (hE : bucket D (hashL s) = E)
    (ho3 : w3.ownsRow 0 178 2 (.slice (some ⟨gg, 0, none⟩) (E.length + 1) gcap) (E.length + 1) (entCells E ++ [.string (txt s), .int .i64 (D.length : Int)]))
    (hg3 : (w2.drew.alloc o).grownBy w3 v.ownBlock) (ha : v.ownBlock = some gg ∨ gg = w2.heap.size + 1) :
    Numbered gL gC F D s w (.returned (.int .i64 (D.length : Int))) (w3.setCell ⟨gL, hashL s, none⟩ (.slice (some ⟨gg, 0, none⟩) (E.length + 1) gcap)) := by
  have hk := hash_lt s
  have hz := hoff.size
  have hfo := (ht.bkt _ hk).foot
  rw [hv] at hfo
  have h3 : ∀ b, b < w2.heap.size → v.ownBlock ≠ some b → w3.heap[b]? = w2.heap[b]? := fun b hb hne =>
    (hg3.block b (by simp; omega) (fun e => hne e.symm)).trans (Below.heap_alloc w2.drew o b hb)
  have hs3 : w2.heap.size ≤ w3.heap.size := by
    have := hg3.size
    simp at this
    omega
  have hlg := ht.lt gL ht.fL
  have hlc := ht.lt gC ht.fC
  have hgg : gg ≠ gL ∧ (v.ownBlock = some gg ∨ w.heap.size ≤ gg) := by
    rcases ha with h | h
    · exact ⟨(hfo gg h).2.1, .inl h⟩
    · exact ⟨by omega, .inr (by omega)⟩
  have set_ne : ∀ b, b ≠ gL → (w3.setCell ⟨gL, hashL s, none⟩ (.slice (some ⟨gg, 0, none⟩) (E.length + 1) gcap)).heap[b]? = w3.heap[b]? := fun b hb => Below.heap_setCell _ _ _ _ hb
  have hL3 : w3.heap[gL]? = some (.cells vs 176 (0, 0)) := by
    rw [h3 gL (by omega) (fun e => (hfo gL e).2.1 rfl), hblk gL hlg ht.ne]
    exact ht.lists
  have htb : Tbl (w3.setCell ⟨gL, hashL s, none⟩ (.slice (some ⟨gg, 0, none⟩) (E.length + 1) gcap)) gL gC (fun b => F b ∨ b = gg) (vs.setIfInBounds (hashL s) (.slice (some ⟨gg, 0, none⟩) (E.length + 1) gcap)) (D ++ [s]) := by
    refine Tbl.add ht hno ?_ rfl ?_ ?_ ?_ ?_ ?_
    · rw [hE]
      refine own_block ho3 fun b hb => ?_
      obtain rfl : gg = b := Option.some.inj hb
      exact set_ne _ hgg.1
    · rw [hv]; exact hgg.2
    · simp only [World.setCell, Array.getElem?_modify, hL3]
      simp [Array.setIfInBounds]
    · rw [set_ne gC (Ne.symm ht.ne), h3 gC (by omega) (fun e => (hfo gC e).2.2 rfl)]
      exact hgc
    · simp [World.setCell]; omega
    · intro b hb h1 h2 h4
      rw [hv] at h4
      rw [set_ne b h1, h3 b (by have := ht.lt b hb; omega) h4, hblk b (ht.lt b hb) h2]
  refine ⟨D.length, _, _, _, rfl, htb, .inr rfl, by simp, ⟨?_, ?_, ?_, ?_, ?_⟩, ?_⟩
  · exact hg3.os.trans hoff.os
  · exact hg3.tape.trans hoff.tape
  · exact hg3.output.trans hoff.output
  · simp [World.setCell]; omega
  · intro b hb hn
    rw [set_ne b (fun e => hn (e ▸ ht.fL)), h3 b (by omega) (fun e => hn (hfo b e).1)]
    exact hoff.block b hb hn
  · rintro b (hb | rfl)
    · exact .inl hb
    · rcases hgg.2 with h | h
      · exact .inl (hfo _ h).1
      · exact .inr h

set_option maxRecDepth 100000 in
set_option maxHeartbeats 1000000 in
theorem l5Number_any (gL gC : Nat) (F : Nat → Prop) (vs : Array Value) (D : List (List UInt8)) (s : List UInt8) (w : World) (ht : Tbl w gL gC F vs D) (hD : D.length ≤ 1000000) (hs : s.length ≤ 1000000) :
    Calls Tryd.prog 143 #[tblV gL gC, .string (txt s)] w (Numbered gL gC F D s w) := by
  have HT := Lib.hid ht
  have hsz : (txt s).size ≤ 1000000 := by rw [txt_size]; exact hs
  have hd : (txt s).data.toList = s := txt_toList s
  have HS := Lib.hid hs; have HSS := Lib.hid hsz; have HD := Lib.hid hD; have HDD := Lib.hid hd
  have hs9 : (txt s).size ≤ 9223372036854775807 := by omega
  clear hsz hs hD hd
  have hlg := ht.lt gL ht.fL
  have hlc := ht.lt gC ht.fC
  have HW : Hid (Below w.heap.size w (w.alloc (.cells #[.slice (some ⟨gL, 0, none⟩) 997 997, .slice (some ⟨gC, 0, none⟩) 1 1] 80))) := (Below.refl _ _).alloc (Nat.le_refl _) _
  obtain ⟨T, hT⟩ : ∃ T, txt s = T := ⟨_, rfl⟩
  have HTT := Lib.hid hT
  rw [hT] at hs9 ⊢
  clear hT ht
  unfold tblV
  go_enter Tryd.func143, Tryd.ntmps143
  go_wp2_with fail
  go_loop [6, 5] (fun i q => ∃ k : Nat, k ≤ T.size ∧ i = .int .i64 k ∧ ∃ h : Nat, h < 997 ∧ q = .int .i64 (h : Int) ∧ Hid (h = hashL (T.data.toList.take k))) (fun i _ => T.size - (intOf i).toNat)
  case atStart => exact ⟨0, by omega, rfl, 0, by omega, rfl, rfl⟩
  case round =>
    obtain ⟨k, hk, rfl, h, hh, rfl, HH⟩ := hrel
    by_cases hlt : k < T.size
    · have hx : T.data.toList.take (k + 1) = T.data.toList.take k ++ [T[k]] := by
        rw [List.take_succ_eq_append_getElem (by simpa using hlt)]; rfl
      have HN : Hid ((h * 31 + T[k].toNat) % 997 = hashL (T.data.toList.take (k + 1))) := by
        show _ = _
        rw [hx, hash_snoc, HH.out]
      clear hx
      have hc0 := UInt8.toNat_lt T[k]
      go_wp2_with fail
      go_round
      case rel => exact ⟨k + 1, by omega, by go_num, (h * 31 + T[k].toNat) % 997, Nat.mod_lt _ (by decide), by go_num, HN.out⟩
      case measure => simp [intOf]; omega
    · have HK : Hid (h = hashL s) := by
        show h = hashL s
        rw [HH.out, List.take_of_length_le (by simp; omega), ← HTT.out, HDD.out]
      clear HH
      have hhI : (h : Int) < 997 := by omega
      have HT1 := Lib.hid (HT.out.below HW.out)
      have HB := Lib.hid (HT1.out.bkt h hh)
      have dL := HT1.out.cellL h hh
      obtain ⟨vk, hvk⟩ : ∃ v, vs.getD h undef = v := ⟨_, rfl⟩
      rw [hvk] at dL HB
      have HVK := Lib.hid hvk
      clear hvk
      obtain ⟨a, cap, rfl, hc1, hc2, hcells⟩ := HB.out.view
      have HC := Lib.hid hcells
      unfold maxLen at hc2
      clear hcells
      obtain ⟨E, hE⟩ : ∃ E, bucket D h = E := ⟨_, rfl⟩
      have HEE := Lib.hid hE
      rw [hE] at dL HC HB hc1
      clear hE
      go_wp2_with fail
      go_loop [7] (fun i => ∃ k : Nat, k ≤ E.length ∧ i = .int .i64 k ∧ Hid (∀ j (hj : j < E.length), j < k → E[j].1 ≠ s)) (fun i => E.length - (intOf i).toNat)
      case atStart => exact ⟨0, by omega, rfl, fun j _ hj => by omega⟩
      case round =>
        obtain ⟨i, hi, rfl, HK2⟩ := hrel
        by_cases hlt2 : i < E.length
        · obtain ⟨g, rfl, hg, hgc⟩ := HC.out (by omega)
          obtain ⟨d1, d2⟩ := hgc i hlt2
          obtain ⟨u, hu⟩ : ∃ u, E[i].1 = u := ⟨_, rfl⟩
          obtain ⟨m, hm⟩ : ∃ u, E[i].2 = u := ⟨_, rfl⟩
          have e1 := txt_eq u s
          rw [HTT.out] at e1
          rw [hu] at d1; rw [hm] at d2
          have HU := Lib.hid hu; have HM := Lib.hid hm
          clear hu hm hgc
          by_cases hus : u = s
          · have e2 : decide (u = s) = true := by simp [hus]
            rw [e2] at e1
            have HN : Hid (D[m]? = some s) := by
              have := bucket_mem.1 (List.getElem_mem (l := bucket D h) (by rw [HEE.out]; exact hlt2))
              have e : (bucket D h)[i]'(by rw [HEE.out]; exact hlt2) = E[i] := by simp [HEE.out]
              rw [e, HM.out, HU.out] at this
              rw [← hus]
              exact this.1
            clear hus e2
            go_wp2_with fail
            go_ret
            exact ⟨m, F, vs, D, rfl, HT1.out, .inl rfl, HN.out, Off.of_below HW.out, fun b hb => .inl hb⟩
          · have e2 : decide (u = s) = false := by simp [hus]
            rw [e2] at e1
            have HUS := Lib.hid hus
            clear hus e2
            go_wp2_with fail
            go_round
            case rel =>
              refine ⟨i + 1, by omega, by go_num, fun j hj hji => ?_⟩
              by_cases hjk : j = i
              · subst hjk; rw [HU.out]; exact HUS.out
              · exact HK2.out j hj (by omega)
            case measure => simp [intOf]; omega
        · have HNO : Hid (s ∉ D) := by
            refine bucket_none fun j hj => ?_
            have hj' : j < E.length := by rw [← HEE.out, HK.out]; exact hj
            have := HK2.out j hj' (by omega)
            have e : (bucket D (hashL s))[j] = E[j] := by simp [← HEE.out, HK.out]
            rw [e]; exact this
          obtain ⟨c0, c1⟩ := HT1.out.cellC
          have HD1 := Lib.hid HD.out
          have hDI : (D.length : Int) ≤ 1000000 := by have := HD.out; omega
          clear HK2
          go_wp2_with fail
          obtain ⟨w2, hw2⟩ : ∃ w2, (w.setCell ⟨gC, 0, none⟩ (.int .i64 ((D.length : Int) + 1))).alloc (.cells #[.slice (some ⟨gL, 0, none⟩) 997 997, .slice (some ⟨gC, 0, none⟩) 1 1] 80) = w2 := ⟨_, rfl⟩
          rw [hw2]
          have hz2 : w2.heap.size = w.heap.size + 1 := by rw [← hw2]; simp [World.setCell]
          have hblk : ∀ b, b < w.heap.size → b ≠ gC → w2.heap[b]? = w.heap[b]? := fun b hb hne => by
            rw [← hw2, Below.heap_alloc _ _ _ (by simpa [World.setCell] using hb), Below.heap_setCell _ _ _ _ hne]
          have hgc : w2.heap[gC]? = some (.cells #[.int .i64 ((D.length : Int) + 1)] 3 (0, 0)) := by
            rw [← hw2, Below.heap_alloc _ _ _ (by simpa [World.setCell] using hlc)]
            simp [World.setCell, Array.getElem?_modify, HT.out.count]
          have HOFF2 : Hid (Off F w w2) := by
            refine ⟨by rw [← hw2]; rfl, by rw [← hw2]; rfl, by rw [← hw2]; rfl, by omega, fun b hb hn => hblk b hb (fun e => hn (e ▸ HT.out.fC))⟩
          have hbox : w2.heap[w.heap.size]? = some (.cells #[.slice (some ⟨gL, 0, none⟩) 997 997, .slice (some ⟨gC, 0, none⟩) 1 1] 80 (0, 0)) := by
            rw [← hw2]
            have := heap_alloc_new (w.setCell ⟨gC, 0, none⟩ (.int .i64 ((D.length : Int) + 1))) (.cells #[.slice (some ⟨gL, 0, none⟩) 997 997, .slice (some ⟨gC, 0, none⟩) 1 1] 80)
            simpa [World.setCell] using this
          have b0 : w2.cell? ⟨w.heap.size, 0, none⟩ = some (.slice (some ⟨gL, 0, none⟩) 997 997) := by simp [World.cell?, hbox]
          have b1 : w2.cell? ⟨w.heap.size, 1, none⟩ = some (.slice (some ⟨gC, 0, none⟩) 1 1) := by simp [World.cell?, hbox]
          have hgl : w2.heap[gL]? = some (.cells vs 176 (0, 0)) := (hblk gL hlg HT.out.ne).trans HT.out.lists
          have b2 : w2.cell? ⟨gL, h, none⟩ = some (.slice a E.length cap) := by
            have hv := HVK.out
            rw [HEE.out] at hv
            rw [cell_of_row w2 gL h vs _ (0, 0) hgl, ← hv, Array.getD_eq_getD_getElem?]
            have : h < vs.size := by rw [HT.out.size]; exact hh
            simp [this]
          have b3 : w2.frozen? ⟨gL, h, none⟩ = false := by simp [World.frozen?, hgl]
          have hfo := HB.out.foot
          have hown2 : w2.ownsRow 0 178 2 (.slice a E.length cap) E.length (entCells E) := by
            refine own_block HB.out.own fun b hb => ?_
            rw [hblk b (HT.out.lt b (hfo b hb).1) (hfo b hb).2.2]
            exact (HW.out.block b (HT.out.lt b (hfo b hb).1)).symm
          have hEl : E.length ≤ 1000000 := by
            have h1 := bucket_length D h
            have h2 := HD.out
            rw [HEE.out] at h1
            omega
          have HOWN := Lib.hid hown2
          have HVE : Hid (vs.getD (hashL s) undef = .slice a E.length cap) := by
            have hv := HVK.out
            rw [HEE.out, HK.out] at hv
            exact hv
          have HEH : Hid (bucket D (hashL s) = E) := by
            have hv := HEE.out
            rw [HK.out] at hv
            exact hv
          have hgl2 : gL < w2.heap.size := by omega
          have hgb2 : w.heap.size < w2.heap.size := by omega
          have KS : Hid (∀ (w' : World), (∀ b, b < w2.heap.size → (Value.slice a E.length cap).ownBlock ≠ some b → w'.heap[b]? = w2.heap[b]?) → (w'.cell? ⟨w.heap.size, 0, none⟩ = some (.slice (some ⟨gL, 0, none⟩) 997 997) ∧ w'.cell? ⟨w.heap.size, 1, none⟩ = some (.slice (some ⟨gC, 0, none⟩) 1 1) ∧ w'.cell? ⟨gL, h, none⟩ = some (.slice a E.length cap) ∧ w'.frozen? ⟨gL, h, none⟩ = false)) := by
            intro w' hk
            have k1 : (Value.slice a E.length cap).ownBlock ≠ some w.heap.size := fun e => by
              have := HT.out.lt _ (hfo _ e).1; omega
            have k2 : (Value.slice a E.length cap).ownBlock ≠ some gL := fun e => (hfo _ e).2.1 rfl
            refine ⟨?_, ?_, ?_, ?_⟩
            · exact (World.cell?_of_block (w := w2) (a := ⟨w.heap.size, 0, none⟩) (hk _ (by show w.heap.size < _; omega) k1)).trans b0
            · exact (World.cell?_of_block (w := w2) (a := ⟨w.heap.size, 1, none⟩) (hk _ (by show w.heap.size < _; omega) k1)).trans b1
            · exact (World.cell?_of_block (w := w2) (a := ⟨gL, h, none⟩) (hk _ (by show gL < _; omega) k2)).trans b2
            · exact (World.frozen?_of_block (w := w2) (a := ⟨gL, h, none⟩) (hk _ (by show gL < _; omega) k2)).trans b3
          have HBLK := Lib.hid hblk; have HGC := Lib.hid hgc; have HGL := Lib.hid hgl; have HZ2 := Lib.hid hz2; have HEL := Lib.hid hEl; have HFO := Lib.hid hfo
          have hHE : Hid (E.length + 1 ≤ maxLen) := by show _ ≤ _; unfold maxLen; omega
          have hHF : Hid ((E.length + 1) * 24 ≤ 140737488355328) := by show _ ≤ _; omega
          obtain ⟨i0, hi0, hi1, hi2, hi3⟩ := info_parts entInfo
          have HI := Lib.hid (And.intro hi0 (And.intro hi1 (And.intro hi2 hi3)))
          clear hi0 hi1 hi2 hi3 hblk hgc hgl hbox hfo hown2 hEl hw2 HW c0 c1 hz2
          go_region_law ((refine step_append_lies (w := w2.drew.alloc (.cells #[.string T, .int .i64 (D.length : Int)] 178)) rfl (.tmp 69) (.tmp 73) _ rfl 0 178 i0 _ 2 24 Tryd.underlying176 HI.out.1 HI.out.2.1 HI.out.2.2.1 HI.out.2.2.2 rfl (by omega) (.slice a E.length cap) E.length (entCells E) rfl (HOWN.out.drew.alloc _) ⟨w2.heap.size, 0, none⟩ 1 1 [.string T, .int .i64 (D.length : Int)] rfl rfl (World.news_of_block (cs := #[.string T, .int .i64 (D.length : Int)]) (t := 178) (fr := (0, 0)) (heap_alloc_new w2.drew _)) (by simp [Value.oneCell']) (by omega) hHE.out hHF.out (Nat.zero_le _) (w2.heap.size + 1) (by simp) ?_; intro gg gcap w3 hown3 hgrow hat hlt3; have K3 := Lib.hid (KS.out w3 (fun b hb hne => (hgrow.block b (by simp; omega) (fun e => hne e.symm)).trans (by exact Below.heap_alloc w2.drew _ _ hb))); have k1 := K3.out.1; have k3 := K3.out.2.2.1; have k4 := K3.out.2.2.2; have HO3 := Lib.hid hown3; have HG3 := Lib.hid hgrow; have HA3 := Lib.hid hat; clear hown3 hgrow hat))
          all_goals go_wp2_with fail
          all_goals
            go_ret
            have h := number_end HT.out HNO.out HOFF2.out HGC.out HBLK.out HVE.out HEH.out (by rw [HTT.out]; exact HO3.out) HG3.out HA3.out
            rw [← HK.out] at h
            exact h
end Go.Proofs.YtagnikcnakdehaaDoor
