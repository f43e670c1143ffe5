/- cut: a file of two pieces: conditions: 241 to 480 bytes. -/
import Derived.Test.YtpniohbjgpncmaaDoorVJ
import Derived.Outline
namespace Go.Proofs.YtpniohbjgpncmaaDoor
open Go.RowKit
attribute [local go_sem] Oper.semAt_some

def File2Post (w : World) (x : Nat) (v : Value) (outs : List ByteArray) (n : Nat) (e : Ending) (w' : World) : Prop := ∃ (k : KidD) (v' : Value) (t1 t2 t3 : ByteArray), k.hash.length = 32 ∧ e = .returned (.agg (kidV k).toArray) ∧ t1.size = 241 ∧ t2.size = n - 240 + 1 ∧ t3.size = 76 ∧
  Cu w' x v' (outs ++ [t1, t2, t3]) ∧ Keeps (fun k => k = x ∨ v.ownBlock = some k) w w' ∧ Fresh w v v'

set_option maxRecDepth 20000 in
set_option maxHeartbeats 1600000 in
theorem file_two (x : Nat) (v : Value) (outs : List ByteArray) (data : ByteArray) (w : World) (hc : Cu w x v outs) (hk : KTab w) (hf : KFirst w) (hx : 3 < x) (hv : ∀ k, v.ownBlock = some k → 3 < k) (hd1 : 240 < data.size) (hd2 : data.size ≤ 480) (hol : outs.length < 800) :
    Calls Tryd.prog 121 #[.pointer (some ⟨x, 0, none⟩), .string data] w (File2Post w x v outs data.size) := by
  have hcr := fun W => run_bytes_of_string (P := Tryd.prog) W 9 27 5 data Tryd.underlying9 Tryd.underlying27 Tryd.underlying5
  have HC := Lib.hid hc; clear hc
  have HK := Lib.hid hk; clear hk
  have HF := Lib.hid hf; clear hf
  have HV := Lib.hid hv; clear hv
  have HD := Lib.hid hd1; clear hd1
  have HD2 := Lib.hid hd2; clear hd2
  refine (callsIn_wide (n := 2)).1 (callsIn_of_wp_marks Tryd.func121 rfl trivial ?_)
  refine wpIn_wide.2 ?_
  simp only [Tryd.ntmps121, List.size_toArray, List.length_cons, List.length_nil, Nat.reduceAdd, Nat.reduceSub, Array.replicate_succ, Array.replicate_zero, List.push_toArray, List.append_toArray, List.nil_append, List.cons_append]
  go_wp2_with (first | (go_at_call 147; refine (pieces147 _ _ _ 240 _).mono ?_; rintro e w1 ⟨rfl, rfl⟩))
  clear hcr
  generalize hW0 : World.alloc _ _ = W0
  generalize hW5 : World.drew _ = W5
  have hst := file_start HC.out hW0 hW5
  clear hW5
  generalize hcap : grownCap W0 data.size 0 5 = cap at *
  clear hW0 hcap
  obtain ⟨hlv, hbox, hres, hq1, hq2, hrd, hk05, hs5⟩ := hst
  have hcapl : data.size ≤ cap := by obtain ⟨_, a', c', he, hc, _⟩ := hrd; cases he; exact hc
  have hxl := heap_lt HC.out.heap
  have hvl : ∀ k, v.ownBlock = some k → k < w.heap.size := fun k hk => own_lt HC.out.own k hk
  have h23 : ∀ k, k ≤ 3 → ¬ (CbF x v (w.heap.size + 1 + 1) k ∨ k = w.heap.size + 1 + 1 + 1 + 1) := fun k hk => by
    rintro ((g | g | g) | g)
    · omega
    · have := HV.out k g; omega
    · omega
    · omega
  have hout : ∀ k, w.heap.size ≤ k → k ≠ w.heap.size + 1 + 1 → k ≠ w.heap.size + 1 + 1 + 1 + 1 → ¬ (CbF x v (w.heap.size + 1 + 1) k ∨ k = w.heap.size + 1 + 1 + 1 + 1) := fun k hk hne hne2 => by
    rintro ((g | g | g) | g)
    · omega
    · have := hvl k g; omega
    · exact hne g
    · exact hne2 g
  obtain ⟨a1, c1, hsl1, hsr1, hso1⟩ := slice_to Tryd.slice27 1 Tryd.size27 (some ⟨w.heap.size + 1 + 1 + 1, 0, none⟩) data.size cap 240 hcapl (by have := HD.out; omega)
  obtain ⟨a2, c2, hsl2, hsr2, hso2⟩ := slice_from Tryd.slice27 1 Tryd.size27 (some ⟨w.heap.size + 1 + 1 + 1, 0, none⟩) data.size cap 240 (by have := HD.out; omega)
  obtain ⟨T, hT⟩ : ∃ T : List ByteArray, T = [⟨(1 :: (bl data).take 240).toArray⟩, ⟨(1 :: (bl data).drop 240).toArray⟩] := ⟨_, rfl⟩
  refine fileR1_wp x w.heap.size (w.heap.size + 1 + 1) _ [.slice a1 240 c1, .slice a2 (data.size - 240) c2] T (fun k => k = w.heap.size + 1 + 1 + 1 + 1) v outs W5 _ [] _ _ _ _ _ _ _ _ _ _ _ _ _ _ _ _ _ _ _ _ _ _ _ _ _ _ _ _ _ _ _ _ _ _ _
    (iter169b _ _ _ 240 a1 a2 c1 c2 HD.out (by have := HD2.out; omega) _ _ W5 hq1 hq2 _ ?n1 ?n2 (by omega) hsl1 hsl2) hlv (by rw [hT]; rfl) (by simp; omega) ?pieces hbox (hout _ (Nat.le_refl _) (by omega) (by omega)) (HK.out.keeps hk05 (fun h => h)) (HF.out.keeps hk05 (fun h => h)) h23 (fun k h => ⟨by omega, fun g => ?n3⟩) ?rest
  case n1 =>
    rintro ((g | g | g) | g)
    · omega
    · have := hvl _ g; omega
    · omega
    · omega
  case n2 =>
    rintro ((g | g | g) | g)
    · omega
    · have := hvl _ g; omega
    · omega
    · omega
  case n3 =>
    rcases g with g | g | g
    · omega
    · have := hvl _ g; omega
    · omega
  case pieces =>
    intro i y hy
    match i, hy with
    | 0, hy =>
      simp at hy
      subst hy
      refine ⟨_, _, _, (bl data).take 240, rfl, by rw [hT]; rfl, ?_, by simp [bl_length]; have := HD.out; omega, Nat.le_refl _, fun b hb => ?_⟩
      · have := hsr1 _ _ hrd
        rw [Nat.mul_one] at this
        rw [show bytesV ((bl data).take 240) = (bytesV (bl data)).take 240 by simp [bytesV]]
        exact this
      · rw [hso1] at hb
        simp [Value.ownBlock] at hb
        subst hb
        exact ⟨by omega, hout _ (by omega) (by omega) (by omega)⟩
    | 1, hy =>
      simp at hy
      subst hy
      refine ⟨_, _, _, (bl data).drop 240, rfl, by rw [hT]; rfl, ?_, by simp [bl_length], by have := HD2.out; omega, fun b hb => ?_⟩
      · have := hsr2 _ _ hrd
        rw [Nat.mul_one] at this
        rw [show bytesV ((bl data).drop 240) = (bytesV (bl data)).drop 240 by simp [bytesV]]
        exact this
      · rw [hso2] at hb
        simp [Value.ownBlock] at hb
        subst hb
        exact ⟨by omega, hout _ (by omega) (by omega) (by omega)⟩
    | i + 2, hy => simp at hy
  case rest =>
    rintro W ⟨v', lv', ks, hL, h1, h3, h4, h5, h6⟩ hD
    have hkl : ks.length = 2 := by rw [h1, hT]; rfl
    obtain ⟨ao, cp, hlvf⟩ := own_form hL.row
    subst hlvf
    rw [hkl] at hL
    have hrk : Kids W (.slice ao 2 cp) ks := by have := Own.rd hL.row; unfold Kids; rw [hkl]; exact this
    have hcp : 2 ≤ cp := by obtain ⟨a', c', he, hc⟩ := hrk.len; simp at he; omega
    have ec := cell_of_heap hL.cell 0
    simp at ec
    have ecA := (keeps_alloc W (.cells #[.slice none 0 0] 100)).cell ec (fun h => h)
    have hbx := h4.heap hbox (hout _ (Nat.le_refl _) (by omega) (by omega))
    have hrW := h4.heap hres (hout _ (by omega) (by omega) (by omega))
    have hsW := heap_lt hD
    rw [hs5] at hsW
    have hHd := Lib.hid hD; clear hD
    have HL := Lib.hid hL; clear hL
    have HR := Lib.hid hrk; clear hrk
    have H3 := Lib.hid h3; clear h3
    have H4 := Lib.hid h4; clear h4
    have H5 := Lib.hid h5; clear h5
    have H6 := Lib.hid h6; clear h6
    have HW := Lib.hid hrW; clear hrW
    have HB := Lib.hid hbx; clear hbx
    have HKL := Lib.hid hkl; clear hkl
    have HKW := Lib.hid (HK.out.keeps hk05 (fun h => h))
    have HFW := Lib.hid (HF.out.keeps hk05 (fun h => h))
    have HT := Lib.hid hT; clear hT
    clear h1 hq1 hq2 hrd hbox hres hlv hsl1 hsr1 hso1 hsl2 hsr2 hso2
    dsimp only
    go_wp2
    refine wp_loop_rounds 2 ?_
    rw [rounds_succ]
    go_wp2_with (first | (go_at_call 148; refine (pieces148 _ _ _ 6 _).mono ?_; rintro e w1 ⟨rfl, rfl⟩))
    obtain ⟨W2, hW2⟩ : ∃ W2, W2 = ((W.alloc (.cells #[.slice none 0 0] 100)).alloc (.cells #[.slice ao 2 cp] 100)).alloc (.cells #[.int .i64 6] 3) := ⟨_, rfl⟩
    rw [← hW2]
    have hk2 : Keeps No W W2 := by rw [hW2]; exact (keeps_alloc2 _ _ _).alloc _
    have hs2 : W2.heap.size = W.heap.size + 3 := by rw [hW2]; simp
    have g0 : W2.heap[W.heap.size]? = some (.cells #[.slice none 0 0] 100) := by rw [hW2]; exact heap_again (heap_again (heap_next _ rfl))
    have g1 : W2.heap[W.heap.size + 1]? = some (.cells #[.slice ao 2 cp] 100) := by rw [hW2]; exact heap_again (heap_next _ (by simp))
    have g2 : W2.heap[W.heap.size + 1 + 1]? = some (.cells #[.int .i64 6] 3) := by rw [hW2]; exact heap_next _ (by simp)
    have HW2 := Lib.hid hW2; clear hW2
    have hvW : ∀ k, v'.ownBlock = some k → k < W.heap.size := fun k hk => own_lt HL.out.cu.own k hk
    have hlW : ∀ k, (Value.slice ao 2 cp).ownBlock = some k → k < W.heap.size := fun k hk => own_lt HL.out.row k hk
    have hv'n : ∀ k, k ≤ w.heap.size + 7 → v'.ownBlock = some k → v.ownBlock = some k := fun k hk hv => by
      rcases H5.out with g | g
      · rw [← g]; exact hv
      · have := g k hv; omega
    have h23' : ∀ k, k ≤ 3 → ¬ (CbF x v' W.heap.size k ∨ False) := fun k hk => by
      rintro ((g | g | g) | g)
      · omega
      · have := HV.out k (hv'n k (by omega) g); omega
      · omega
      · exact g
    have hout' : ∀ k, w.heap.size ≤ k → k ≤ w.heap.size + 6 → ¬ (CbF x v' W.heap.size k ∨ False) := fun k hk hne => by
      rintro ((g | g | g) | g)
      · omega
      · have := hvl k (hv'n k (by omega) g); omega
      · omega
      · exact g
    have hlv2 : Lv W2 x v' (outs ++ T) W.heap.size (.slice none 0 0) 0 [] := ⟨HL.out.cu.no hk2, g0, World.ownsRow_nil _ _ _ _, by simp [Value.ownBlock], by simp [Value.ownBlock], by simp [Value.ownBlock], fun e => by have := hvW _ e; omega, by omega⟩
    have hTl : T.length = 2 := by rw [HT.out]; rfl
    refine fileR2_wp x w.heap.size W.heap.size _ [.slice ao 2 cp] [⟨(indexB ks).toArray⟩] (fun _ => False) v' (outs ++ T) W2 _ [{ target := .collected (w.heap.size + 6), args := #[] }] _ _ _ _ _ _ _ _ _ _ _ _ _ _ _ _ _ _ _ _ _ _ _ _ _ _ _ _ _ _ _ _ _ _ _
      (iter170 _ _ _ 6 (by omega) _ _ W2 g1 g2 _) hlv2 rfl (by simp [hTl]; omega) ?pieces2 (hk2.heap HB.out (fun h => h)) (hout' _ (by omega) (by omega)) ((HKW.out.keeps H4.out (h23 3 (by omega))).keeps hk2 (fun h => h)) ((HFW.out.keeps H4.out (h23 2 (by omega))).keeps hk2 (fun h => h)) h23' (fun _ h => h.elim) ?rest2
    case pieces2 =>
      intro i y hy
      cases i with
      | zero =>
        simp at hy
        subst hy
        refine ⟨_, _, _, ks, rfl, rfl, HR.out.keeps hk2 (fun _ _ h => h), H3.out, by rw [HKL.out]; omega, by rw [HKL.out]; omega, fun b hb => ⟨by have := hlW b hb; omega, ?_⟩⟩
        rintro ((g | g | g) | g)
        · exact HL.out.lx (g ▸ hb)
        · exact HL.out.lv b hb g
        · have := hlW b hb; omega
        · exact g
      | succ i => simp at hy
    case rest2 =>
      rintro W3 ⟨v2, lv2, ks2, hL2, h21, h23k, h24, h25, h26⟩ hD2
      obtain ⟨k, hk⟩ : ∃ k, ks2 = [k] := by
        match ks2, h21 with
        | [k], _ => exact ⟨k, rfl⟩
      subst hk
      have hh : k.hash.length = 32 := h23k k (by simp)
      obtain ⟨ao2, cp2, hlvf⟩ := own_form hL2.row
      subst hlvf
      have hrk : Kids W3 (.slice ao2 [k].length cp2) [k] := Own.rd hL2.row
      obtain ⟨b, o, rfl, hra⟩ := hrk.at (by simpa using hh) 0 (by simp)
      simp only [Nat.zero_mul, Nat.add_zero, List.getElem_cons_zero] at hra
      have hcp2 : 1 ≤ cp2 := by obtain ⟨a', c', he, hc⟩ := hrk.len; simp at he; simp at hc; omega
      have ec2 := cell_of_heap hL2.cell 0
      simp at ec2
      have hC3 := h24.heap (hk2.heap HL.out.cell (fun h => h)) (hout' _ (by omega) (by omega))
      have hrW3 := h24.heap (hk2.heap HW.out (fun h => h)) (hout' _ (by omega) (by omega))
      have hDo := h24.heap (hk2.heap (by have := hHd.out; rw [hs5] at this; exact this) (fun h => h)) (hout' _ (by omega) (by omega))
      have ec3 := cell_of_heap hC3 0
      have ef3 := frozen_of_heap hC3 0
      simp at ec3
      have HL2 := Lib.hid hL2; clear hL2
      have HR2 := Lib.hid hra; clear hra hrk
      have H24 := Lib.hid h24; clear h24
      have H25 := Lib.hid h25; clear h25
      have H26 := Lib.hid h26; clear h26
      have HW3 := Lib.hid hrW3; clear hrW3
      have HDO := Lib.hid hDo; clear hDo
      have HD3 := Lib.hid hD2; clear hD2
      have HC3 := Lib.hid hC3; clear hC3
      clear ec ecA hk2 g0 g1 g2 hlv2 h21 h23k h23 h23'
      dsimp only
      obtain ⟨X, hX⟩ : ∃ X, X = kidV k := ⟨_, rfl⟩
      have hx1 : X.length = 36 := by rw [hX]; exact kidV_length _ hh
      have hx2 : ∀ u ∈ X, u.oneCell' = true := by rw [hX]; exact kidV_one _
      have hra' := HR2.out
      rw [← hX] at hra'
      have HRA := Lib.hid hra'; clear hra' HR2
      have HX := Lib.hid hX; clear hX
      go_wp2
      obtain ⟨W4, hW4⟩ : ∃ W4, W4 = W3.setCell ⟨w.heap.size + 1 + 1, 0, none⟩ (.slice (some ⟨b, o, none⟩) 1 cp2) := ⟨_, rfl⟩
      rw [← hW4]
      have hks : Keeps (fun k => k = w.heap.size + 1 + 1) W3 W4 := by rw [hW4]; exact (Keeps.refl _ _).setCell _ _ (fun _ => rfl)
      have hC4 : W4.heap[w.heap.size + 1 + 1]? = some (.cells #[.slice (some ⟨b, o, none⟩) 1 cp2] 100) := by rw [hW4, heap_setCell_same _ HC3.out]; rfl
      have hbn : w.heap.size + 1 + 1 ≠ b := by have := H26.out b rfl; omega
      have hra4 : W4.rangeAt b o X := fun j v hj => hks.cell (HRA.out j v hj) (fun h => hbn h.symm)
      have hrW4 := hks.heap HW3.out (by omega)
      have hdo4 := hks.heap HDO.out (by omega)
      have hdn4 := hks.heap HD3.out (by omega)
      have ec4 := cell_of_heap hC4 0
      simp at ec4
      have HRA4 := Lib.hid hra4; clear hra4
      have HW4 := Lib.hid hrW4; clear hrW4
      have HDO4 := Lib.hid hdo4; clear hdo4
      have HDN4 := Lib.hid hdn4; clear hdn4
      clear hC4 hW4 ec2 ec3 ef3
      rw [rounds_succ]
      go_wp2_with (first | (refine wpList_load_mid rfl 146 _ rfl b o (by rfl) X _ HRA4.out Tryd.underlying146 rfl (by rw [hx1]; exact Tryd.size146) ?_) | (refine wpList_store_row rfl 146 _ _ rfl (w.heap.size + 1) X.toArray (by rfl) (by rfl) 146 _ HW4.out (by simp only [List.size_toArray]; rw [hx1]; exact Tryd.size146) (by simp only [List.size_toArray]; rw [hx1]; rfl) (all_oneCell_toArray hx2) ?_))
      have hdn5 := HDN4.out
      rw [hs2] at hdn5
      have hkr : Keeps (fun k => k = w.heap.size + 1) W4 (W4.setRow (w.heap.size + 1) X.toArray) := (Keeps.refl _ _).setRow _ _ (fun _ => rfl)
      have hdn6 := hkr.heap hdn5 (by omega)
      have hkp : Keeps (fun k => k = W.heap.size + 3) (W4.setRow (w.heap.size + 1) X.toArray) ((W4.setRow (w.heap.size + 1) X.toArray).putObj (W.heap.size + 3) (.deferred none)) := keeps_putObj _ _ _ rfl
      have hdo6 := hkp.heap (hkr.heap HDO4.out (by omega)) (by omega)
      have hrow := hkp.heap (setRow_heap _ _ _ X.toArray _ _ HW4.out) (by omega)
      refine ⟨by simp, .inl ⟨_, _, rfl, run_takeDeferred hdn6, ?_⟩⟩
      refine ⟨by simp, .inl ⟨_, _, rfl, run_takeDeferred hdo6, ?_⟩⟩
      have hkq : Keeps (fun k => k = w.heap.size + 6) ((W4.setRow (w.heap.size + 1) X.toArray).putObj (W.heap.size + 3) (.deferred none)) (((W4.setRow (w.heap.size + 1) X.toArray).putObj (W.heap.size + 3) (.deferred none)).putObj (w.heap.size + 6) (.deferred none)) := keeps_putObj _ _ _ rfl
      have hrow2 := hkq.heap hrow (by omega)
      have hkk : Keeps (fun k => k = w.heap.size + 1 + 1 ∨ k = w.heap.size + 1 ∨ k = W.heap.size + 3 ∨ k = w.heap.size + 6) W3 _ := ((hks.trans hkr (fun _ _ h => .inl h) (fun _ _ h => .inr (.inl h))).trans hkp (fun _ _ h => h) (fun _ _ h => .inr (.inr (.inl h)))).trans hkq (fun _ _ h => h) (fun _ _ h => .inr (.inr (.inr h)))
      have hv2 : v2.ownBlock = v.ownBlock ∨ ∀ k, v2.ownBlock = some k → w.heap.size + 7 < k ∧ k ≠ W.heap.size + 3 := by
        rcases H25.out with g | g
        · rw [g]
          rcases H5.out with q | q
          · exact .inl q
          · exact .inr fun k hk => ⟨by have := q k hk; omega, by have := hvW k hk; omega⟩
        · exact .inr fun k hk => by have := g k hk; omega
      refine ⟨_, results_cell_row rfl _ _ (w.heap.size + 1) 146 _ (0, 0) _ (by rfl) hrow2 Tryd.underlying146 rfl (by simp only [List.size_toArray]; rw [hx1]; exact Tryd.size146), k, v2, ⟨(1 :: (bl data).take 240).toArray⟩, ⟨(1 :: (bl data).drop 240).toArray⟩, ⟨(indexB ks).toArray⟩, hh, by rw [HX.out], ?_, ?_, ?_, ?_, ?_, ?_⟩
      · have := HD.out
        show (1 :: (bl data).take 240).toArray.size = 241
        rw [List.size_toArray, List.length_cons, List.length_take, bl_length]; omega
      · show (1 :: (bl data).drop 240).toArray.size = _
        rw [List.size_toArray, List.length_cons, List.length_drop, bl_length]
      · have := indexB_length ks H3.out; rw [HKL.out] at this; simp [ByteArray.size, this]
      · have hcu := HL2.out.cu
        rw [HT.out, List.append_assoc] at hcu
        refine hcu.keeps hkk (fun h => by omega) (fun i hi h => ?_)
        rcases hv2 with g | g
        · have := hvl i (g ▸ hi); omega
        · have := g i hi; omega
      · have e1 : Keeps (fun k => k = x ∨ v.ownBlock = some k ∨ w.heap.size ≤ k) w W := hk05.trans H4.out (fun _ _ h => h.elim) (fun i _ h => by
          rcases h with (h | h | h) | h
          · exact .inl h
          · exact .inr (.inl h)
          · exact .inr (.inr (by omega))
          · exact .inr (.inr (by omega)))
        have hk2' : Keeps No W W2 := by rw [HW2.out]; exact (keeps_alloc2 _ _ _).alloc _
        have e2 : Keeps (fun k => k = x ∨ v.ownBlock = some k ∨ w.heap.size ≤ k) w W2 := e1.trans hk2' (fun _ _ h => h) (fun _ _ h => h.elim)
        have e3 : Keeps (fun k => k = x ∨ v.ownBlock = some k ∨ w.heap.size ≤ k) w W3 := e2.trans H24.out (fun _ _ h => h) (fun i _ h => by
          rcases h with (h | h | h) | h
          · exact .inl h
          · by_cases hi : i ≤ w.heap.size + 7
            · exact .inr (.inl (hv'n i hi h))
            · exact .inr (.inr (by omega))
          · exact .inr (.inr (by omega))
          · exact h.elim)
        exact e3.trans hkk (fun i hi h => by
          rcases h with h | h | h
          · exact .inl h
          · exact .inr h
          · omega) (fun i hi h => by omega)
      · rcases hv2 with g | g
        · exact .inl g
        · exact .inr fun k hk => by have := g k hk; omega
end Go.Proofs.YtpniohbjgpncmaaDoor
