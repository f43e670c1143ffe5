import Derived.Test.YtpniohbjgpncmaaDoorR4
namespace Go.Proofs.YtpniohbjgpncmaaDoor
open Go.RowKit
theorem ref_big (l : List UInt8) (h2 : 2048 < tUsed l) : takeVal l = .tuple #[headVal 0 0 0, .int .i64 3] := by
  unfold takeVal
  rw [if_neg]
  intro h3
  unfold takeOk at h3
  have := (of_decide_eq_true h3).1
  omega
theorem ref_eq (l : List UInt8) (h2 : ¬ 2048 < tUsed l) (h3 : headBytes (tBox l) (tUsed l) (tSum l) = l) : takeVal l = .tuple #[headVal (tBox l) (tUsed l) (tSum l), .int .i64 0] := by
  unfold takeVal takeOk
  rw [if_pos (decide_eq_true ⟨by omega, h3⟩)]
theorem ref_ne (l : List UInt8) (h3 : headBytes (tBox l) (tUsed l) (tSum l) ≠ l) : takeVal l = .tuple #[headVal 0 0 0, .int .i64 3] := by
  unfold takeVal takeOk
  rw [if_neg]
  intro h4
  exact h3 (of_decide_eq_true h4).2

theorem six_facts {w w6 : World} {a b c d e f : Value} {t u : TypeId} (k : Keeps No ((w.alloc (.cells #[a, b, c] t)).alloc (.cells #[d, e, f] u)).drew w6) :
    w6.heap[w.heap.size]? = some (.cells #[a, b, c] t) ∧ w6.heap[w.heap.size + 1]? = some (.cells #[d, e, f] u) := by
  have h1 := heap_new1 w (.cells #[a, b, c] t) (.cells #[d, e, f] u) _ rfl
  have h2 := heap_alloc_new (w.alloc (.cells #[a, b, c] t)) (.cells #[d, e, f] u)
  rw [World.size_alloc] at h2
  exact ⟨k.heap (w := ((w.alloc (.cells #[a, b, c] t)).alloc (.cells #[d, e, f] u)).drew) h1 (fun h => h), k.heap (w := ((w.alloc (.cells #[a, b, c] t)).alloc (.cells #[d, e, f] u)).drew) h2 (fun h => h)⟩
theorem rr_keeps {w w6 : World} {a b : Obj} (k : Keeps No ((w.alloc a).alloc b).drew w6) : Keeps No w w6 := ((keeps_alloc2 w a b).drew).same k
set_option maxRecDepth 20000 in
set_option maxHeartbeats 800000 in
theorem reftake_B (s : ByteArray) (V1 V2 V3 : Nat) (h1 : tBox (bl s) = V1) (h2 : tUsed (bl s) = V2) (h3 : tSum (bl s) = V3) (w : World) (h : s.size = 512) (b1 : V1 < 65536) (b2 : V2 < 65536) (b3 : V3 < 4294967296) (hbig : 2048 < V2) :
    Calls Tryd.prog 15 #[.string s] w fun e w' => e = .returned (takeVal (bl s)) ∧ Keeps No w w' := by
  have hb : ((s.size : Int) != 512) = false := by rw [h]; rfl
  have q6 : (6 : Int) ≤ s.size := by omega
  have q8 : (8 : Int) ≤ s.size := by omega
  have q12 : (12 : Int) ≤ s.size := by omega
  have c1 := val_cut s 4 6 2 V1 (by omega) rfl (by omega) h1
  have c2 := val_cut s 6 8 2 V2 (by omega) rfl (by omega) h2
  have c3 := val_cut s 8 12 4 V3 (by omega) rfl (by omega) h3
  have r1 : IntKind.i64.wrap (V1 : Int) = V1 := by rw [IntKind.wrap_i64]; omega
  have r2 : IntKind.i64.wrap (V2 : Int) = V2 := by rw [IntKind.wrap_i64]; omega
  have r3 : IntKind.u32.wrap (V3 : Int) = V3 := by rw [IntKind.wrap_u32]; omega
  have hbig' : (2048 : Int) < V2 := by omega
  have hto := ref_big (bl s) (by rw [h2]; exact hbig)
  have HTO := Lib.hid hto; clear hto
  have C1 := Lib.hid c1; clear c1
  have C2 := Lib.hid c2; clear c2
  have C3 := Lib.hid c3; clear c3
  have H := Lib.hid h; clear h
  have H1 := Lib.hid h1; clear h1
  have H2 := Lib.hid h2; clear h2
  have H3 := Lib.hid h3; clear h3
  have B1 := Lib.hid b1; clear b1
  have B2 := Lib.hid b2; clear b2
  have B3 := Lib.hid b3; clear b3
  go_enter Tryd.func15, Tryd.ntmps15
  go_wp2
  go_region_held3 (fun _ => True) (trivial)
    (first | (go_at_call 34; (with_reducible refine (C1.out _).mono ?_); rintro e w1 ⟨rfl, rfl⟩) | (go_at_call 34; (with_reducible refine (C2.out _).mono ?_); rintro e w1 ⟨rfl, rfl⟩) | (go_at_call 34; (with_reducible refine (C3.out _).mono ?_); rintro e w1 ⟨rfl, rfl⟩))
  all_goals go_wp2
  all_goals refine bodyPost_ret (results_cell_tmp_row rfl _ _ w.heap.size 34 #[.int .i64 0, .int .i64 0, .int .u32 0] _ _ (by rfl) (six_facts (Keeps.refl _ _)).1 Tryd.underlying34 rfl Tryd.size34) rfl ?_
  all_goals exact ⟨by rw [HTO.out]; rfl, (keeps_alloc2 w _ _).drew⟩
set_option maxRecDepth 20000 in
set_option maxHeartbeats 800000 in
theorem reftake_C (s : ByteArray) (V1 V2 V3 : Nat) (h1 : tBox (bl s) = V1) (h2 : tUsed (bl s) = V2) (h3 : tSum (bl s) = V3) (w : World) (h : s.size = 512) (b1 : V1 < 65536) (b2 : V2 < 65536) (b3 : V3 < 4294967296) (hbig : ¬ 2048 < V2) (hEq : headBytes V1 V2 V3 = bl s) :
    Calls Tryd.prog 15 #[.string s] w fun e w' => e = .returned (takeVal (bl s)) ∧ Keeps No w w' := by
  have hb : ((s.size : Int) != 512) = false := by rw [h]; rfl
  have q6 : (6 : Int) ≤ s.size := by omega
  have q8 : (8 : Int) ≤ s.size := by omega
  have q12 : (12 : Int) ≤ s.size := by omega
  have c1 := val_cut s 4 6 2 V1 (by omega) rfl (by omega) h1
  have c2 := val_cut s 6 8 2 V2 (by omega) rfl (by omega) h2
  have c3 := val_cut s 8 12 4 V3 (by omega) rfl (by omega) h3
  have r1 : IntKind.i64.wrap (V1 : Int) = V1 := by rw [IntKind.wrap_i64]; omega
  have r2 : IntKind.i64.wrap (V2 : Int) = V2 := by rw [IntKind.wrap_i64]; omega
  have r3 : IntKind.u32.wrap (V3 : Int) = V3 := by rw [IntKind.wrap_u32]; omega
  have hbig' : ¬ (2048 : Int) < V2 := by omega
  have hto := ref_eq (bl s) (by rw [h2]; exact hbig) (by rw [h1, h2, h3]; exact hEq)
  rw [h1, h2, h3] at hto
  have HTO := Lib.hid hto; clear hto
  have heq' : s = ⟨(headBytes V1 V2 V3).toArray⟩ := ba_eq hEq.symm
  have hne : ((⟨(headBytes V1 V2 V3).toArray⟩ : ByteArray).toList == s.toList) = true := by rw [← heq']; exact beq_self_eq_true _
  have P3 := refput_any V1 V2 V3 b1 b2 b3
  obtain ⟨T, hT⟩ : ∃ T : ByteArray, T = ⟨(headBytes V1 V2 V3).toArray⟩ := ⟨_, rfl⟩
  rw [← hT] at P3 hne
  have HP3 := Lib.hid P3; clear P3
  have HTT := Lib.hid hT; clear hT
  clear heq'
  have HEQ := Lib.hid hEq; clear hEq
  have C1 := Lib.hid c1; clear c1
  have C2 := Lib.hid c2; clear c2
  have C3 := Lib.hid c3; clear c3
  have H := Lib.hid h; clear h
  have H1 := Lib.hid h1; clear h1
  have H2 := Lib.hid h2; clear h2
  have H3 := Lib.hid h3; clear h3
  have B1 := Lib.hid b1; clear b1
  have B2 := Lib.hid b2; clear b2
  have B3 := Lib.hid b3; clear b3
  go_enter Tryd.func15, Tryd.ntmps15
  go_wp2
  go_region_held3 (fun _ => True) (trivial)
    (first | (go_at_call 34; (with_reducible refine (C1.out _).mono ?_); rintro e w1 ⟨rfl, rfl⟩) | (go_at_call 34; (with_reducible refine (C2.out _).mono ?_); rintro e w1 ⟨rfl, rfl⟩) | (go_at_call 34; (with_reducible refine (C3.out _).mono ?_); rintro e w1 ⟨rfl, rfl⟩))
  all_goals go_wp2_with (go_at_call 13; refine (HP3.out _).mono ?_; rintro e w6 ⟨rfl, hk6⟩; obtain ⟨g1, g2⟩ := six_facts hk6; have x0 := cell_of_heap g1 0; have x1 := cell_of_heap g1 1; have x2 := cell_of_heap g1 2; have y0 := cell_of_heap g2 0; have y1 := cell_of_heap g2 1; have y2 := cell_of_heap g2 2; have f0 := frozen_of_heap g1 0; have f1 := frozen_of_heap g1 1; have f2 := frozen_of_heap g1 2; simp at x0 x1 x2 y0 y1 y2; have G1 := Lib.hid g1; clear g1 g2)
  all_goals refine bodyPost_ret (results_cell_tmp_row rfl _ _ w.heap.size 34 #[.int .i64 V1, .int .i64 V2, .int .u32 V3] _ _ (by rfl) (heap_setCell_same _ (heap_setCell_same _ (heap_setCell_same _ G1.out))) Tryd.underlying34 rfl Tryd.size34) rfl ?_
  all_goals exact ⟨by rw [HTO.out]; rfl, (((rr_keeps hk6).setCell ⟨w.heap.size, 0, none⟩ _ (fun h => by simp at h)).setCell ⟨w.heap.size, 1, none⟩ _ (fun h => by simp at h)).setCell ⟨w.heap.size, 2, none⟩ _ (fun h => by simp at h)⟩
set_option maxRecDepth 20000 in
set_option maxHeartbeats 800000 in
theorem reftake_D (s : ByteArray) (V1 V2 V3 : Nat) (h1 : tBox (bl s) = V1) (h2 : tUsed (bl s) = V2) (h3 : tSum (bl s) = V3) (w : World) (h : s.size = 512) (b1 : V1 < 65536) (b2 : V2 < 65536) (b3 : V3 < 4294967296) (hbig : ¬ 2048 < V2) (hEq : headBytes V1 V2 V3 ≠ bl s) :
    Calls Tryd.prog 15 #[.string s] w fun e w' => e = .returned (takeVal (bl s)) ∧ Keeps No w w' := by
  have hb : ((s.size : Int) != 512) = false := by rw [h]; rfl
  have q6 : (6 : Int) ≤ s.size := by omega
  have q8 : (8 : Int) ≤ s.size := by omega
  have q12 : (12 : Int) ≤ s.size := by omega
  have c1 := val_cut s 4 6 2 V1 (by omega) rfl (by omega) h1
  have c2 := val_cut s 6 8 2 V2 (by omega) rfl (by omega) h2
  have c3 := val_cut s 8 12 4 V3 (by omega) rfl (by omega) h3
  have r1 : IntKind.i64.wrap (V1 : Int) = V1 := by rw [IntKind.wrap_i64]; omega
  have r2 : IntKind.i64.wrap (V2 : Int) = V2 := by rw [IntKind.wrap_i64]; omega
  have r3 : IntKind.u32.wrap (V3 : Int) = V3 := by rw [IntKind.wrap_u32]; omega
  have hbig' : ¬ (2048 : Int) < V2 := by omega
  have hto := ref_ne (bl s) (by rw [h1, h2, h3]; exact hEq)
  have HTO := Lib.hid hto; clear hto
  have hne : ((⟨(headBytes V1 V2 V3).toArray⟩ : ByteArray).toList == s.toList) = false := by
    rw [beq_eq_false_iff_ne, ByteArray.toList_eq, ByteArray.toList_eq]
    exact hEq
  have P3 := refput_any V1 V2 V3 b1 b2 b3
  obtain ⟨T, hT⟩ : ∃ T : ByteArray, T = ⟨(headBytes V1 V2 V3).toArray⟩ := ⟨_, rfl⟩
  rw [← hT] at P3 hne
  have HP3 := Lib.hid P3; clear P3
  have HTT := Lib.hid hT; clear hT
  have HEQ := Lib.hid hEq; clear hEq
  have C1 := Lib.hid c1; clear c1
  have C2 := Lib.hid c2; clear c2
  have C3 := Lib.hid c3; clear c3
  have H := Lib.hid h; clear h
  have H1 := Lib.hid h1; clear h1
  have H2 := Lib.hid h2; clear h2
  have H3 := Lib.hid h3; clear h3
  have B1 := Lib.hid b1; clear b1
  have B2 := Lib.hid b2; clear b2
  have B3 := Lib.hid b3; clear b3
  go_enter Tryd.func15, Tryd.ntmps15
  go_wp2
  go_region_held3 (fun _ => True) (trivial)
    (first | (go_at_call 34; (with_reducible refine (C1.out _).mono ?_); rintro e w1 ⟨rfl, rfl⟩) | (go_at_call 34; (with_reducible refine (C2.out _).mono ?_); rintro e w1 ⟨rfl, rfl⟩) | (go_at_call 34; (with_reducible refine (C3.out _).mono ?_); rintro e w1 ⟨rfl, rfl⟩))
  all_goals go_wp2_with (go_at_call 13; refine (HP3.out _).mono ?_; rintro e w6 ⟨rfl, hk6⟩; obtain ⟨g1, g2⟩ := six_facts hk6; have x0 := cell_of_heap g1 0; have x1 := cell_of_heap g1 1; have x2 := cell_of_heap g1 2; have y0 := cell_of_heap g2 0; have y1 := cell_of_heap g2 1; have y2 := cell_of_heap g2 2; have f0 := frozen_of_heap g1 0; have f1 := frozen_of_heap g1 1; have f2 := frozen_of_heap g1 2; simp at x0 x1 x2 y0 y1 y2; have G1 := Lib.hid g1; clear g1 g2)
  all_goals refine bodyPost_ret (results_cell_tmp_row rfl _ _ w.heap.size 34 #[.int .i64 0, .int .i64 0, .int .u32 0] _ _ (by rfl) (heap_setCell_same _ (heap_setCell_same _ (heap_setCell_same _ G1.out))) Tryd.underlying34 rfl Tryd.size34) rfl ?_
  all_goals exact ⟨by rw [HTO.out]; rfl, (((rr_keeps hk6).setCell ⟨w.heap.size, 0, none⟩ _ (fun h => by simp at h)).setCell ⟨w.heap.size, 1, none⟩ _ (fun h => by simp at h)).setCell ⟨w.heap.size, 2, none⟩ _ (fun h => by simp at h)⟩

theorem valTo_take (l : List UInt8) (n : Nat) : valTo (l.take n) n < 256 ^ n := by
  by_cases h : n ≤ (l.take n).length
  · exact valTo_lt _ _ h
  · have e : valTo (l.take n) n = valTo (l.take n) (l.take n).length := by
      unfold valTo
      rw [List.take_of_length_le (Nat.le_refl _), List.take_of_length_le (by omega)]
    rw [e]
    exact Nat.lt_of_lt_of_le (valTo_lt _ _ (Nat.le_refl _)) (Nat.pow_le_pow_right (by omega) (by omega))
theorem reftake_all (s : ByteArray) (w : World) :
    Calls Tryd.prog 15 #[.string s] w fun e w' => e = .returned (takeVal (bl s)) ∧ Keeps No w w' := by
  by_cases h : s.size = 512
  · have b1 : tBox (bl s) < 65536 := valTo_take ((bl s).drop 4) 2
    have b2 : tUsed (bl s) < 65536 := valTo_take ((bl s).drop 6) 2
    have b3 : tSum (bl s) < 4294967296 := valTo_take ((bl s).drop 8) 4
    by_cases hbig : 2048 < tUsed (bl s)
    · exact reftake_B s _ _ _ rfl rfl rfl w h b1 b2 b3 hbig
    · by_cases hEq : headBytes (tBox (bl s)) (tUsed (bl s)) (tSum (bl s)) = bl s
      · exact reftake_C s _ _ _ rfl rfl rfl w h b1 b2 b3 hbig hEq
      · exact reftake_D s _ _ _ rfl rfl rfl w h b1 b2 b3 hbig hEq
  · exact reftake_no s w h
end Go.Proofs.YtpniohbjgpncmaaDoor
