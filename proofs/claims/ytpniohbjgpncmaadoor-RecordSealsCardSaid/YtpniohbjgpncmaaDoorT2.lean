/- wakes of the 13th law: conditions: none. -/
import Derived.Test.YtpniohbjgpncmaaDoorT1
import Derived.Test.YtpniohbjgpncmaaDoorT0
namespace Go.Proofs.YtpniohbjgpncmaaDoor
open Go.RowKit

def wH : List UInt8 := 7 :: List.replicate 31 0
def wZ : List UInt8 := List.replicate 32 0
def wS : ByteArray := ⟨#[97, 98]⟩
def wE : ByteArray := ⟨#[]⟩
def wRecs : List (List UInt8 × ByteArray) := [(wH, wS), (wZ, wE)]
def wAll : List UInt8 := recBytes wH wS ++ recBytes wZ wE ++ [120]
theorem put_h (w : World) : Calls Tryd.prog 24 #[.agg (bytesV wH).toArray, .string ⟨#[97, 98]⟩] w (BytesPost (recBytes wH wS) w) :=
  recput_any wH wS w rfl (by decide)
theorem put_z (w : World) : Calls Tryd.prog 24 #[.agg (bytesV wZ).toArray, .string ⟨#[]⟩] w (BytesPost (recBytes wZ wE) w) :=
  recput_any wZ wE w rfl (by decide)
theorem built_h : Tryd.prog.built 70 [(0, .int .u8 7)] = some (bytesV wH).toArray := by kernel_rfl
theorem built_z : Tryd.prog.built 70 [] = some (bytesV wZ).toArray := by kernel_rfl
theorem wRecs_bytes : recsBytes wRecs = recBytes wH wS ++ recBytes wZ wE := by simp [recsBytes, wRecs]
theorem wA_len : (recBytes wH wS).length = 36 := by decide
theorem wB_len : (recBytes wZ wE).length = 34 := by decide
theorem wRecs_good : GoodRecs wRecs := by
  refine ⟨fun r hr => ?_, by rw [wRecs_bytes, List.length_append, wA_len, wB_len]; decide⟩
  simp only [wRecs, List.mem_cons, List.not_mem_nil, or_false] at hr
  rcases hr with rfl | rfl <;> decide
theorem walk_w (v : Value) (w : World) (hv : Rd w 1 v wAll.length (bytesV wAll)) : Calls Tryd.prog 25 #[v, .int .i64 70] w (WalkPost wRecs w) :=
  recwalk wRecs wAll v 70 w hv (by simp [wAll, wA_len, wB_len]) (by
    unfold wAll
    rw [wRecs_bytes]
    exact List.take_left' (by rw [List.length_append, wA_len, wB_len])) wRecs_good
theorem seal_w (v : Value) (w : World) (ht : Halves w) (hv : Rd w 1 v (recBytes wH wS).length (bytesV (recBytes wH wS))) : Calls Tryd.prog 11 #[.int .i64 3, v] w (SealPost 3 (recBytes wH wS) w) :=
  seal_yes 3 v (recBytes wH wS) w hv (by decide) (by rw [wA_len]; decide) ht

theorem app_chain {w2 w3 w4 w5 w6 : World} {ao3 ao4 : Option Addr} {n3 c3 n4 c4 : Nat} {O : Obj} (h3 : Keeps (fun b => (Value.slice none 0 0).ownBlock = some b) w2 w3) (h4 : Keeps (fun b => (Value.slice ao3 n3 c3).ownBlock = some b) w3 w4)
    (h5 : Keeps (fun b => (Value.slice ao4 n4 c4).ownBlock = some b) (w4.alloc O) w5) (h6 : Keeps No w5 w6) (a3 : (Value.slice ao3 n3 c3).ownBlock = (Value.slice none 0 0).ownBlock ∨ (Value.slice ao3 n3 c3).ownBlock = some w2.heap.size)
    (a4 : (Value.slice ao4 n4 c4).ownBlock = (Value.slice ao3 n3 c3).ownBlock ∨ (Value.slice ao4 n4 c4).ownBlock = some w3.heap.size) : Keeps No w2 w6 := by
  have e0 : (Value.slice none 0 0).ownBlock = none := rfl
  have b3 : ∀ b, (Value.slice ao3 n3 c3).ownBlock = some b → w2.heap.size ≤ b := by
    intro b hb
    rcases a3 with h | h
    · rw [h, e0] at hb; cases hb
    · rw [h] at hb; cases hb; exact Nat.le_refl _
  have b4 : ∀ b, (Value.slice ao4 n4 c4).ownBlock = some b → w2.heap.size ≤ b := by
    intro b hb
    rcases a4 with h | h
    · exact b3 b (h ▸ hb)
    · rw [h] at hb; cases hb; exact h3.size
  have k3 : Keeps (fun k => w2.heap.size ≤ k) w2 w3 := h3.mono fun i _ h => by rw [e0] at h; cases h
  have k4 : Keeps (fun k => w2.heap.size ≤ k) w3 w4 := h4.mono fun i _ h => b3 i h
  have k5 : Keeps (fun k => w2.heap.size ≤ k) (w4.alloc O) w5 := h5.mono fun i _ h => b4 i h
  have k6 : Keeps (fun k => w2.heap.size ≤ k) w5 w6 := h6.mono fun i _ h => h.elim
  exact ((((k3.same k4).alloc O).same k5).same k6).mono fun i hi h => by omega
theorem built_r : Tryd.prog.built 76 [(1, .agg (bytesV wH).toArray), (2, .string ⟨#[97, 98]⟩)] = some (recV (0, wH, wS)).toArray := by kernel_rfl
theorem eq_r (w : World) : Sem.run Tryd.prog (do eqGuard .eql 76 (.tmp 72) (.tmp 74) (.agg (recV (0, wH, wS)).toArray) (.agg (recV (0, wH, wS)).toArray); binOp .eql 76 (.agg (recV (0, wH, wS)).toArray) (.agg (recV (0, wH, wS)).toArray)) w = .ok (.bool true) w := by kernel_rfl
def wRow : List Value := recV (0, wH, wS) ++ recV (36, wZ, wE)
def WkPost (w : World) (e : Ending) (w' : World) : Prop := ∃ g cp, e = .returned (.tuple #[.slice (some ⟨g, 0, none⟩) 2 cp, .int .i64 0]) ∧ w'.rangeAt g 0 wRow ∧ Keeps No w w' ∧ 2 ≤ cp
theorem walk_w2 (ao : Option Addr) (n cp : Nat) (xs : List Value) (w : World) (hn : n = wAll.length) (hx : xs = bytesV wAll) (hv : w.ownsRow 0 5 1 (.slice ao n cp) n xs) : Calls Tryd.prog 25 #[.slice ao n cp, .int .i64 70] w (WkPost w) := by
  subst hn hx
  refine (walk_w _ w (Own.rd hv)).mono fun e w' h => ?_
  obtain ⟨ao, cp, he, ho, hk, _⟩ := h
  have e1 : (recList 0 wRecs).length = 2 := rfl
  have e2 : (recList 0 wRecs).flatMap recV = wRow := by
    simp [recList, wRecs, wA_len, wRow]
  rw [e1] at he ho
  rw [e2] at ho
  obtain ⟨h1, h2 | ⟨g, cap, cur, hv', _, hg, hc, _, hs, ht⟩⟩ := ho
  · simp at h2
  · cases hv'
    refine ⟨g, cp, he, fun j v hj => ?_, hk, hc⟩
    have hj2 : j < 68 := by
      have := (List.getElem?_eq_some_iff.1 hj).1
      rw [h1] at this
      omega
    rw [cell_of_heap hg (0 + j), Nat.zero_add]
    rw [← ht, List.getElem?_take, if_pos (by omega)] at hj
    simpa using hj
def SlPost (S : List UInt8) (w : World) (e : Ending) (w' : World) : Prop := ∃ ao cp, e = .returned (.tuple #[.slice ao S.length cp, .int .i64 0]) ∧ Rd w' 1 (.slice ao S.length cp) S.length (bytesV S) ∧ Keeps No w w'
theorem seal_w2 (v : Value) (w : World) (ht : Halves w) (hv : Rd w 1 v (recBytes wH wS).length (bytesV (recBytes wH wS))) : Calls Tryd.prog 11 #[.int .i64 3, v] w (SlPost (headBytes 3 36 (crcOf (recBytes wH wS))) w) := by
  refine (seal_w v w ht hv).mono fun e w' h => ?_
  obtain ⟨ao, cp, he, ho, hk, _⟩ := h
  rw [wA_len] at he ho
  exact ⟨ao, cp, he, Own.rd ho, hk⟩
theorem take_w2 (v : Value) (w : World) (ht : Halves w) (hv : Rd w 1 v (headBytes 3 36 (crcOf (recBytes wH wS))).length (bytesV (headBytes 3 36 (crcOf (recBytes wH wS))))) :
    Calls Tryd.prog 14 #[v] w fun e w' => e = .returned (.tuple #[.agg #[.int .i64 3, .int .i64 36, .int .u32 (crcOf (recBytes wH wS))], .int .i64 0]) ∧ Keeps No w w' := by
  refine (rtake_all v _ w hv (by rw [headBytes_length]; decide) ht).mono fun e w' h => ?_
  obtain ⟨he, hk⟩ := h
  rw [takeVal_head 3 36 _ (by decide) (by decide) (crcOf_lt _)] at he
  exact ⟨he, hk⟩

set_option maxRecDepth 20000 in
set_option maxHeartbeats 800000 in
set_option pp.maxSteps 100000 in
theorem wakes_any (w : World) (ht : Halves w) : Calls Tryd.prog 10 #[] w fun e w' => e = .returned (.bool true) ∧ Keeps No w w' := by
  have HT := Lib.hid ht; clear ht
  obtain ⟨A, hA⟩ : ∃ A, A = recBytes wH wS := ⟨_, rfl⟩
  obtain ⟨B, hB⟩ : ∃ B, B = recBytes wZ wE := ⟨_, rfl⟩
  obtain ⟨H, hH⟩ : ∃ H, H = (bytesV wH).toArray := ⟨_, rfl⟩
  obtain ⟨Z, hZ⟩ : ∃ Z, Z = (bytesV wZ).toArray := ⟨_, rfl⟩
  have PA := put_h
  have PB := put_z
  have bH := built_h
  have bZ := built_z
  have sH : 32 = H.size := by rw [hH]; rfl
  have oH : H.all (·.oneCell') = true := by rw [hH]; exact all_oneCell_toArray (bytesV_one _)
  have zH : (Tryd.prog.info? 70).map (·.size) = some H.size := by rw [← sH]; exact Tryd.size70
  rw [← hA, ← hH] at PA
  rw [← hB, ← hZ] at PB
  rw [← hH] at bH
  rw [← hZ] at bZ
  have PS := seal_w2
  have PT := take_w2
  have hn4 : A.length + B.length + 1 = wAll.length := by rw [hA, hB]; rfl
  have hx4 : bytesV A ++ bytesV B ++ [Value.int .u8 120] = bytesV wAll := by
    rw [hA, hB]
    simp [wAll, bytesV]
  obtain ⟨Sl, hSl⟩ : ∃ Sl, Sl = headBytes 3 36 (crcOf (recBytes wH wS)) := ⟨_, rfl⟩
  rw [← hSl] at PS PT
  obtain ⟨Cr, hCr⟩ : ∃ Cr, Cr = crcOf (recBytes wH wS) := ⟨_, rfl⟩
  rw [← hCr] at PT
  rw [← hA] at PS
  have hlA : A.length = 36 := by rw [hA]; exact wA_len
  have hlB : B.length = 34 := by rw [hB]; exact wB_len
  have HN4 := Lib.hid hn4; clear hn4
  have HX4 := Lib.hid hx4; clear hx4
  have HSl := Lib.hid hSl; clear hSl
  have HCr := Lib.hid hCr; clear hCr
  have HPS := Lib.hid PS; clear PS
  have HPT := Lib.hid PT; clear PT
  have HLA := Lib.hid hlA; clear hlA
  have HLB := Lib.hid hlB; clear hlB
  have HPA := Lib.hid PA; clear PA
  have HPB := Lib.hid PB; clear PB
  have HBH := Lib.hid bH; clear bH
  have HBZ := Lib.hid bZ; clear bZ
  have HSH := Lib.hid sH; clear sH
  have HOH := Lib.hid oH; clear oH
  have HZH := Lib.hid zH; clear zH
  have HA := Lib.hid hA; clear hA
  have HB := Lib.hid hB; clear hB
  have HH := Lib.hid hH; clear hH
  have HZ := Lib.hid hZ; clear hZ
  go_enter Tryd.func10, Tryd.ntmps10
  generalize hc4 : (Code.region 4 _ false).seq _ = c4
  have HC4 := Lib.hid hc4; clear hc4
  go_wp2_with (first | (refine wpList_buildTo rfl 70 _ rfl _ rfl H (by simp only [List.map_toArray, List.map_cons, List.map_nil]; exact HBH.out) ?_) | (refine wpList_buildTo rfl 70 _ rfl _ rfl Z (by simp only [List.map_toArray, List.map_nil]; exact HBZ.out) ?_) | (refine wpList_store_row rfl 70 _ _ rfl w.heap.size H (by rfl) (by rfl) 70 _ (heap_alloc_new _ _) HZH.out HSH.out HOH.out ?_) | (refine wpList_load_row rfl 70 _ rfl w.heap.size (by rfl) 70 H (0, 0) _ (setRow_heap _ _ _ _ _ _ (heap_alloc_new w _)) Tryd.underlying70 rfl HZH.out ?_) | (go_at_call 24; (with_reducible refine (HPA.out _).mono ?_); rintro e w1 ⟨a1, c1, rfl, ho1, hk1, hf1⟩) | (go_at_call 24; (with_reducible refine (HPB.out _).mono ?_); rintro e w2 ⟨a2, c2, rfl, ho2, hk2, hf2⟩))
  have hg2 := hk2.heap (hk1.heap (setRow_heap _ _ _ _ _ _ (heap_alloc_new w _)) (fun h => h)) (fun h => h)
  have hkw2 : Keeps No w w2 := (((keeps_alloc w _).setRow _ _ (fun h => by omega)).same hk1).same hk2
  have hRA := (Own.rd ho1).keeps hk2 (fun _ _ h => h)
  have hRB := Own.rd ho2
  clear hk1 hk2 ho1 ho2 hf1 hf2
  have HRA := Lib.hid hRA; clear hRA
  have HRB := Lib.hid hRB; clear hRB
  have HKW := Lib.hid hkw2; clear hkw2
  have HG2 := Lib.hid hg2; clear hg2
  have m1 : 0 + A.length ≤ maxLen := by rw [HLA.out]; decide
  have m2 : A.length + B.length ≤ maxLen := by rw [HLA.out, HLB.out]; decide
  have m3 : A.length + B.length + 1 ≤ maxLen := by rw [HLA.out, HLB.out]; decide
  have p1 : (0 + A.length) * 1 ≤ 140737488355328 := by rw [HLA.out]; decide
  have p2 : (A.length + B.length) * 1 ≤ 140737488355328 := by rw [HLA.out, HLB.out]; decide
  have p3 : (A.length + B.length + 1) * 1 ≤ 140737488355328 := by rw [HLA.out, HLB.out]; decide
  have M1 := Lib.hid m1; clear m1
  have M2 := Lib.hid m2; clear m2
  have M3 := Lib.hid m3; clear m3
  have P1 := Lib.hid p1; clear p1
  have P2 := Lib.hid p2; clear p2
  have P3 := Lib.hid p3; clear p3
  obtain ⟨i0, hi, hz0, hz1, hz2⟩ := info_parts Tryd.info5
  rw [← HC4.out]
  generalize hc7 : (Code.region 5 _ false).seq _ = c7
  have HC7 := Lib.hid hc7; clear hc7
  go_wp2_with (first | (refine wpList_append_any rfl _ _ 27 27 rfl 5 i0 _ 1 1 Tryd.underlying27 hi hz0 hz1 hz2 rfl (by decide) (.slice none 0 0) 0 [] (by rfl) (World.ownsRow_nil _ _ _ _) _ A.length (bytesV A) (by rfl) (Rd.src Tryd.underlying27 HRA.out (bytesV_one _)) M1.out P1.out ?_; intro ao3 cp3 w3 ho3 hk3 _ hat3; rw [Nat.zero_add, List.nil_append] at ho3) | (refine wpList_append_any rfl _ _ 27 27 rfl 5 i0 _ 1 1 Tryd.underlying27 hi hz0 hz1 hz2 rfl (by decide) (.slice ao3 A.length cp3) A.length (bytesV A) (by rfl) ho3 _ B.length (bytesV B) (by rfl) (Rd.src Tryd.underlying27 (HRB.out.keeps hk3 (fun b hb h => by simp [Value.ownBlock] at h)) (bytesV_one _)) M2.out P2.out ?_; intro ao4 cp4 w4 ho4 hk4 _ hat4) | (refine wpList_append_any rfl _ _ 27 27 rfl 5 i0 _ 1 1 Tryd.underlying27 hi hz0 hz1 hz2 rfl (by decide) (.slice ao4 (A.length + B.length) cp4) (A.length + B.length) (bytesV A ++ bytesV B) (by rfl) (Own.keeps ho4 (keeps_alloc _ _) (fun _ _ h => h)) _ 1 [.int .u8 120] (by rfl) (Rd.src Tryd.underlying27 (rd_one _ _ _) (by simp [Value.oneCell'])) M3.out P3.out ?_; intro ao5 cp5 w5 ho5 hk5 _ hat5) | (go_at_call 25; refine (walk_w2 _ _ _ _ _ HN4.out HX4.out ho5).mono ?_; rintro e w6 ⟨lb, cp6, rfl, hrd6, hk6, hcp6⟩))
  have hk26 := app_chain hk3 hk4 hk5 hk6 (by simpa using hat3) hat4
  clear hk3 hk4 hk5 hk6 hat3 hat4 hat5 ho3 ho4 ho5
  have hRA6 := HRA.out.keeps hk26 (fun _ _ h => h)
  have hg6 := HG2.out
  have hg6 := hk26.heap hg6 (fun h => h)
  have hT6 := HT.out.keeps (HKW.out.same hk26)
  have HRA6 := Lib.hid hRA6; clear hRA6
  have HG6 := Lib.hid hg6; clear hg6
  have HT6 := Lib.hid hT6; clear hT6
  have HK26 := Lib.hid hk26; clear hk26
  have HRD6 := Lib.hid hrd6; clear hrd6
  have hPS : ∀ W v, Rd W 1 v A.length (bytesV A) → Halves W → Calls Tryd.prog 11 #[.int .i64 3, v] W (SlPost Sl W) := fun W v h1 h2 => HPS.out v W h2 h1
  have HPS2 := Lib.hid hPS; clear hPS
  have hPT : ∀ W v, Rd W 1 v Sl.length (bytesV Sl) → Halves W → Calls Tryd.prog 14 #[v] W fun e w' => e = .returned (.tuple #[.agg #[.int .i64 3, .int .i64 36, .int .u32 Cr], .int .i64 0]) ∧ Keeps No W w' := fun W v h1 h2 => HPT.out v W h2 h1
  have HPT2 := Lib.hid hPT; clear hPT
  rw [← HC7.out]
  generalize hc8 : (Code.region 7 _ true) = c8
  have HC8 := Lib.hid hc8; clear hc8
  go_wp2_with (first | (go_at_call 11; (with_reducible refine (HPS2.out _ _ HRA6.out HT6.out).mono ?_); rintro e w7 ⟨ao7, cp7, rfl, hrd7, hk7⟩) | (go_at_call 14; (with_reducible refine (HPT2.out _ _ hrd7 (HT6.out.keeps hk7)).mono ?_); rintro e w8 ⟨rfl, hk8⟩))
  have hg8 := (hk8.heap (hk7.heap HG6.out (fun h => h)) (fun h => h))
  have hra8 := (HRA6.out.keeps hk7 (fun _ _ h => h)).keeps hk8 (fun _ _ h => h)
  have hcl8 : w8.rangeAt lb 0 wRow := fun j u hj => hk8.cell (hk7.cell (HRD6.out j u hj) (fun h => h)) (fun h => h)
  have hkw8 : Keeps No w w8 := ((HKW.out.same HK26.out).same hk7).same hk8
  obtain ⟨w9, hw9⟩ : ∃ w9, w9 = w8.alloc (.cells #[.int .i64 3, .int .i64 36, .int .u32 Cr] 36) := ⟨_, rfl⟩
  have hx9 : w9.heap[w8.heap.size]? = some (.cells #[.int .i64 3, .int .i64 36, .int .u32 Cr] 36) := by rw [hw9]; exact heap_alloc_new _ _
  have hk9 : Keeps No w8 w9 := by rw [hw9]; exact keeps_alloc _ _
  have hg9 := hk9.heap hg8 (fun h => h)
  have hra9 := hra8.keeps hk9 (fun _ _ h => h)
  have hcl9 : w9.rangeAt lb 0 wRow := fun j u hj => hk9.cell (hcl8 j u hj) (fun h => h)
  have hkw9 : Keeps No w w9 := hkw8.same hk9
  have HKW9 := Lib.hid hkw9; clear hkw9
  rw [← hw9]
  clear hw9 hcl8 hra8 hg8 hk7 hk8 hk9
  have hcH : ∀ W, (∃ n, W = w9.drewN n) → W.rangeAt w.heap.size 0 (bytesV wH) := by
    rintro W ⟨n, rfl⟩ j u hj
    have e : (w9.drewN n).cell? ⟨w.heap.size, 0 + j, none⟩ = w9.cell? ⟨w.heap.size, 0 + j, none⟩ := (Keeps.drewN (Keeps.refl No w9) n).cell' (heap_lt hg9) (fun h => h)
    rw [e, cell_of_heap hg9 (0 + j), HH.out]
    simpa using hj
  have hcL : ∀ W, (∃ n, W = w9.drewN n) → W.rangeAt lb 0 (recV (0, wH, wS)) := by
    rintro W ⟨n, rfl⟩ j u hj
    refine (Keeps.drewN (Keeps.refl No w9) n).cell (hcl9 j u ?_) (fun h => h)
    unfold wRow
    rw [List.getElem?_append_left ((List.getElem?_eq_some_iff.1 hj).1)]
    exact hj
  have l34 := hcl9 34 _ rfl
  have hH70 : (Tryd.prog.info? 70).map (·.size) = some (bytesV wH).length := Tryd.size70
  have hR76 : (Tryd.prog.info? 76).map (·.size) = some (recV (0, wH, wS)).length := Tryd.size76
  have hBR := built_r
  have hER := eq_r
  obtain ⟨BH, hBH⟩ : ∃ BH, BH = bytesV wH := ⟨_, rfl⟩
  obtain ⟨R0, hR0⟩ : ∃ R0, R0 = recV (0, wH, wS) := ⟨_, rfl⟩
  rw [← hBH] at hcH hH70 hBR
  rw [← hR0] at hcL hR76 hBR hER
  have HCH := Lib.hid hcH; clear hcH
  have HCL := Lib.hid hcL; clear hcL
  have HH70 := Lib.hid hH70; clear hH70
  have HR76 := Lib.hid hR76; clear hR76
  have HBR := Lib.hid hBR; clear hBR
  have HER := Lib.hid hER; clear hER
  clear hBH hR0
  have x0 := cell_of_heap hx9 0
  have x1 := cell_of_heap hx9 1
  simp at x0 x1
  have hlA : A.length = 36 := HLA.out
  have hc1 : 36 ≤ c1 := by obtain ⟨_, a', c', he, hc, _⟩ := hra9; cases he; omega
  rw [hlA] at hra9 ⊢
  obtain ⟨a9, c9, hsl, hsr, _⟩ := slice_from Tryd.slice27 1 Tryd.size27 a1 36 c1 32 (by decide)
  have hsl2 : ∀ W, Sem.run Tryd.prog (Instr.slice 27 (.slice a1 36 c1) (some (.int .i64 32)) none none) W = .ok (.slice a9 4 c9) W := hsl
  clear hsl
  have hr9 := hsr w9 _ hra9
  have hr9 : Rd w9 1 (.slice a9 ([0, 2, 97, 98] : List UInt8).length c9) ([0, 2, 97, 98] : List UInt8).length (bytesV [0, 2, 97, 98]) := by
    rw [HA.out] at hr9
    exact hr9
  have hcv : ∀ n, Sem.run Tryd.prog (convert 27 9 (.slice a9 4 c9)) (w9.drewN n) = .ok (.string ⟨#[0, 2, 97, 98]⟩) (w9.drewN n) := fun n => run_text (hr9.keeps (Keeps.drewN (Keeps.refl No w9) n) (fun _ _ h => h)) 27 5 9 Tryd.underlying27 Tryd.underlying5 Tryd.underlying9
  have HCV := Lib.hid hcv; clear hcv
  clear hcl9 hsr hr9 hg9 hx9 hra9
  generalize w8.heap.size = xb at x0 x1 ⊢
  generalize w.heap.size = hb at *
  rw [← HC8.out]
  refine wp_region_quiet_lit (by kernel_rfl) (by kernel_rfl) ?_
  repeat (first | go_big_quiet_skip | (go_big_quiet_want; first | (refine quiet_convert 27 9 _ rfl (.slice a9 4 c9) (.string ⟨#[0, 2, 97, 98]⟩) (by rfl) (by rintro W ⟨n, rfl⟩; exact HCV.out n) ?_; simp only [Act.put, List.setIfInBounds_toArray, List.set_cons_zero, List.set_cons_succ]; go_big_quiet_on) | (refine quiet_load_mid 70 _ rfl hb 0 (by rfl) BH _ HCH.out Tryd.underlying70 rfl HH70.out ?_; simp only [Act.put, List.setIfInBounds_toArray, List.set_cons_zero, List.set_cons_succ]; go_big_quiet_on) | (refine quiet_load_mid 76 _ rfl lb 0 (by rfl) R0 _ HCL.out Tryd.underlying76 rfl HR76.out ?_; simp only [Act.put, List.setIfInBounds_toArray, List.set_cons_zero, List.set_cons_succ]; go_big_quiet_on) | (refine quiet_build 76 _ rfl [(1, .agg BH.toArray), (2, .string ⟨#[97, 98]⟩)] (by simp only [List.map_toArray, List.map_cons, List.map_nil]; rfl) _ HBR.out ?_; simp only [Act.put, List.setIfInBounds_toArray, List.set_cons_zero, List.set_cons_succ]; go_big_quiet_on) | (refine quiet_bin .eql 76 76 _ _ rfl (.agg R0.toArray) (.agg R0.toArray) (.bool true) (by rfl) (by rfl) HER.out ?_; simp only [Act.put, List.setIfInBounds_toArray, List.set_cons_zero, List.set_cons_succ]; go_big_quiet_on) | (go_big_quiet_op; go_big_quiet_on)))
  refine wpQuiet_nil ?_
  intro W hW
  obtain ⟨nq, rfl⟩ := hW
  go_wp2
  go_ret
  exact ⟨rfl, Keeps.drewN HKW9.out nq⟩
end Go.Proofs.YtpniohbjgpncmaaDoor
