/- sha: a block is eaten: conditions: none. -/
import Derived.Test.YtpniohbjgpncmaaDoorV2
import Derived.Test.YtpniohbjgpncmaaDoorP9
import Derived.LoopTactic
namespace Go.Proofs.YtpniohbjgpncmaaDoor
open Go.RowKit

theorem words8 {w : World} {g : Nat} {old : Array Value} {t : TypeId} {a b c d e f h i : Int} (hg : w.heap[g]? = some (.cells old t)) : Words t 8 (w.setRow g #[.int .u32 a, .int .u32 b, .int .u32 c, .int .u32 d, .int .u32 e, .int .u32 f, .int .u32 h, .int .u32 i]) g :=
  ⟨[a, b, c, d, e, f, h, i], rfl, setRow_heap _ _ _ _ _ _ hg⟩
theorem one8 (a b c d e f h i : Int) : (#[.int .u32 a, .int .u32 b, .int .u32 c, .int .u32 d, .int .u32 e, .int .u32 f, .int .u32 h, .int .u32 i] : Array Value).all (·.oneCell') = true := by simp [Value.oneCell']
def KTab (w : World) : Prop := ∃ xs : List Int, ∃ fr : TypeId × (Nat × Nat), xs.length = 64 ∧ w.heap[3]? = some (.cells (u32V xs).toArray fr.1 fr.2)
theorem KTab.keeps {w w' : World} {S : Nat → Prop} (h : KTab w) (k : Keeps S w w') (hn : ¬ S 3) : KTab w' := by
  obtain ⟨xs, fr, hl, hh⟩ := h
  exact ⟨xs, fr, hl, k.heap hh hn⟩

theorem run_index_row {P : Program} (t e len i : Nat) (cs : Array Value) (v : Value) (q : IntKind) (ht : P.underlying t = some (.array len e)) (he : P.underlying e = some (.int q)) (hs : (P.info? e).map (·.size) = some 1) (hi : i < len) (hc : cs[i]? = some v) (w : World) :
    (Instr.index t (.agg cs) (.int .i64 i)).run P w = .ok v w := by
  obtain ⟨ie, hie, hse⟩ : ∃ ie, P.info? e = some ie ∧ ie.size = 1 := by
    cases h : P.info? e with
    | none => rw [h] at hs; cases hs
    | some ie => rw [h] at hs; exact ⟨ie, rfl, by simpa using hs⟩
  unfold Instr.index
  have h3 : ¬ len ≤ i := by omega
  simp [asIntOf, run_underlying ht, sizeOf, typeInfo, hie, hse, part, isAgg, run_underlying he, h3, hc]
theorem Tryd.size246 : (Tryd.prog.info? 246).map (·.size) = some 8 := by kernel_rfl
theorem Tryd.size255 : (Tryd.prog.info? 255).map (·.size) = some 64 := by kernel_rfl
theorem Tryd.size31 : (Tryd.prog.info? 31).map (·.size) = some 1 := by kernel_rfl
theorem u32V_one (xs : List Int) : ∀ u ∈ u32V xs, u.oneCell' = true := by
  intro u hu
  simp only [u32V, List.mem_map] at hu
  obtain ⟨x, _, rfl⟩ := hu
  rfl

set_option maxRecDepth 20000 in
set_option maxHeartbeats 1600000 in
theorem eats_any (hb bb bo cap : Nat) (w : World) (hh : Words 246 8 w hb) (hk : KTab w) (hv : ∀ j, j < 64 → ∃ x, w.cell? ⟨bb, bo + j, none⟩ = some (.int .u8 x)) :
    Calls Tryd.prog 171 #[.pointer (some ⟨hb, 0, none⟩), .slice (some ⟨bb, bo, none⟩) 64 cap] w fun e w' => e = .returned (.tuple #[]) ∧ Words 246 8 w' hb ∧ Keeps (fun k => k = hb) w w' := by
  have HH := Lib.hid hh; clear hh
  have HK := Lib.hid hk; clear hk
  have HV := Lib.hid hv; clear hv
  go_enter Tryd.func171, Tryd.ntmps171
  go_wp2
  go_loopw [5, 16] (fun _ i wr => ∃ k : Nat, k ≤ 16 ∧ i = .int .i64 k ∧ Words 151 16 wr w.heap.size ∧ Keeps No w wr) (fun _ i _ => 16 - (intOf i).toNat)
  case atStart => exact ⟨0, Nat.zero_le _, rfl, ⟨List.replicate 16 0, by decide, by (rw [heap_alloc_new]; rfl)⟩, keeps_alloc _ _⟩
  case round =>
    obtain ⟨k, hk, rfl, hr, hkw⟩ := hrel
    by_cases hlt : k < 16
    · obtain ⟨x0, c0⟩ := HV.out (4 * k) (by omega)
      obtain ⟨x1, c1⟩ := HV.out (4 * k + 1) (by omega)
      obtain ⟨x2, c2⟩ := HV.out (4 * k + 2) (by omega)
      obtain ⟨x3, c3⟩ := HV.out (4 * k + 3) (by omega)
      have d0 := hkw.cell c0 (fun h => h)
      have d1 := hkw.cell c1 (fun h => h)
      have d2 := hkw.cell c2 (fun h => h)
      have d3 := hkw.cell c3 (fun h => h)
      obtain ⟨y, hy⟩ := hr.cell k hlt
      have hf := hr.free k
      have i1 : (k : Int) < 16 := by omega
      have i2 : ¬ (k : Int) < 0 := by omega
      have i3 : 4 * (k : Int) < 64 := by omega
      have i4 : 4 * (k : Int) + 1 < 64 := by omega
      have i5 : 4 * (k : Int) + 2 < 64 := by omega
      have i6 : 4 * (k : Int) + 3 < 64 := by omega
      have i7 : ¬ 4 * (k : Int) < 0 := by omega
      have i8 : ¬ 4 * (k : Int) + 1 < 0 := by omega
      have i9 : ¬ 4 * (k : Int) + 2 < 0 := by omega
      have i10 : ¬ 4 * (k : Int) + 3 < 0 := by omega
      clear c0 c1 c2 c3
      go_wp2
      go_region
      go_wp2
      go_roundw
      case rel => exact ⟨k + 1, by omega, by go_num, (hr.set k _).keeps ((Keeps.refl No _).drew) (fun h => h), (hkw.setCell _ _ (fun h => by simp at h)).drew⟩
      case measure => simp [intOf]; omega
    · have hge : ¬ (k : Int) < 16 := by omega
      have HR := Lib.hid hr; clear hr
      have HKW := Lib.hid hkw; clear hkw
      have hw8 := HH.out.keeps HKW.out (fun h => h)
      obtain ⟨vs, hvl, hvh⟩ := hw8
      obtain ⟨ks, kfr, hkl, hkh⟩ := HK.out.keeps HKW.out (fun h => h)
      obtain ⟨V, hV⟩ : ∃ V, V = (u32V vs).toArray := ⟨_, rfl⟩
      obtain ⟨KT, hKT⟩ : ∃ KT, KT = (u32V ks).toArray := ⟨_, rfl⟩
      rw [← hV] at hvh
      rw [← hKT] at hkh
      have s8 : 8 = V.size := by rw [hV]; simp [u32V_length, hvl]
      have o8 : V.all (·.oneCell') = true := by rw [hV]; exact all_oneCell_toArray (u32V_one _)
      have z8 : (Tryd.prog.info? 246).map (·.size) = some V.size := by rw [← s8]; exact Tryd.size246
      have z64 : (Tryd.prog.info? 255).map (·.size) = some KT.size := by rw [hKT]; simp [u32V_length, hkl, Tryd.size255]
      have hix : ∀ i : Nat, i < 64 → ∃ c : Int, ∀ w, (Instr.index 255 (.agg KT) (.int .i64 i)).run Tryd.prog w = .ok (.int .u32 c) w := fun i hi =>
        ⟨ks[i]'(by omega), fun w => run_index_row 255 31 64 i KT _ .u32 Tryd.underlying255 Tryd.underlying31 Tryd.size31 hi (by rw [hKT]; simp [u32V, hkl, hi]) w⟩
      have HIX := Lib.hid hix; clear hix
      have S8 := Lib.hid s8; clear s8
      have O8 := Lib.hid o8; clear o8
      have Z8 := Lib.hid z8; clear z8
      have Z64 := Lib.hid z64; clear z64
      have HVV := Lib.hid hV; clear hV
      have HKT := Lib.hid hKT; clear hKT
      have hkh2 : (wr.alloc (.cells #[Value.int IntKind.u32 0, Value.int IntKind.u32 0, Value.int IntKind.u32 0, Value.int IntKind.u32 0, Value.int IntKind.u32 0, Value.int IntKind.u32 0, Value.int IntKind.u32 0, Value.int IntKind.u32 0] 246)).heap[3]? = _ := (keeps_alloc wr _).heap hkh (fun h => h)
      have hltr := heap_lt hkh
      have hkr : ∀ C, ((wr.alloc (.cells #[Value.int IntKind.u32 0, Value.int IntKind.u32 0, Value.int IntKind.u32 0, Value.int IntKind.u32 0, Value.int IntKind.u32 0, Value.int IntKind.u32 0, Value.int IntKind.u32 0, Value.int IntKind.u32 0] 246)).setRow wr.heap.size C).heap[3]? = some (.cells KT kfr.1 kfr.2) := fun C => ((Keeps.refl (fun k => k = wr.heap.size) _).setRow _ C (fun _ => rfl)).heap hkh2 (by omega)
      have HKR := Lib.hid hkr; clear hkr hkh2
      have HVH := Lib.hid hvh; clear hvh hkl hkh hltr
      have HVL := Lib.hid hvl; clear hvl
      go_wp2_with (first | (refine wpList_load_row rfl 246 _ rfl hb (by rfl) 246 _ (0, 0) _ HVH.out Tryd.underlying246 rfl Z8.out ?_) | (refine wpList_store_row rfl 246 _ _ rfl wr.heap.size V (by rfl) (by rfl) 246 _ (heap_alloc_new _ _) Z8.out S8.out O8.out ?_) | (refine wpList_load_row rfl 255 _ rfl 3 (by rfl) kfr.1 KT kfr.2 _ ?_ Tryd.underlying255 rfl Z64.out ?_; exact HKR.out _))
      generalize hW0 : World.setRow _ _ _ = W0
      obtain ⟨vb, hvb⟩ : ∃ vb, vb = wr.heap.size := ⟨_, rfl⟩
      obtain ⟨gb, hgb⟩ : ∃ gb, gb = w.heap.size := ⟨_, rfl⟩
      have hsz : w.heap.size ≤ wr.heap.size := HKW.out.size
      have hkW0 : Keeps No wr W0 := by rw [← hW0]; exact (keeps_alloc wr _).setRow _ _ (fun h => by omega)
      have hvW0 : Words 246 8 W0 vb := ⟨vs, HVL.out, by rw [← hW0, hvb, ← HVV.out]; exact setRow_heap _ _ _ _ _ _ (heap_alloc_new _ _)⟩
      have hgW0 : Words 151 16 W0 gb := by rw [hgb]; exact HR.out.keeps hkW0 (fun h => h)
      have hne2 : vb ≠ gb := by have := HR.out.lt; omega
      have hk0 : Keeps No w W0 := HKW.out.same hkW0
      rw [← hvb, ← hgb]
      have hgw : w.heap.size ≤ gb := by omega
      have hvw : w.heap.size ≤ vb := by omega
      clear hW0 hkW0 hvb hgb HR HKR HKW hsz
      go_loopw [60] (fun i W => ∃ k : Nat, k ≤ 64 ∧ i = .int .i64 k ∧ Words 246 8 W vb ∧ Words 151 16 W gb ∧ Keeps No w W) (fun i _ => 64 - (intOf i).toNat)
      case atStart => exact ⟨0, Nat.zero_le _, rfl, hvW0, hgW0, hk0⟩
      case round =>
        clear hvW0 hgW0 hk0
        obtain ⟨n, hn, rfl, hv, hr, hkW⟩ := hrel
        by_cases hlt2 : n < 64
        · obtain ⟨c, hix⟩ := HIX.out n hlt2
          obtain ⟨x0, c0⟩ := hv.cell 0 (by omega)
          obtain ⟨x1, c1⟩ := hv.cell 1 (by omega)
          obtain ⟨x2, c2⟩ := hv.cell 2 (by omega)
          obtain ⟨x3, c3⟩ := hv.cell 3 (by omega)
          obtain ⟨x4, c4⟩ := hv.cell 4 (by omega)
          obtain ⟨x5, c5⟩ := hv.cell 5 (by omega)
          obtain ⟨x6, c6⟩ := hv.cell 6 (by omega)
          obtain ⟨x7, c7⟩ := hv.cell 7 (by omega)
          have HV2 := Lib.hid hv; clear hv
          have HR2 := Lib.hid hr; clear hr
          have HKW2 := Lib.hid hkW; clear hkW
          go_wp2
          go_quiet (fail)
          obtain ⟨W1, hW1⟩ : ∃ W1, W1 = wr.drewN nq := ⟨_, rfl⟩
          have hq1 : Keeps No wr W1 := by rw [hW1]; exact Keeps.drewN (Keeps.refl _ _) nq
          rw [← hW1]
          clear hW1
          have d1 := hq1.cell c1 (fun h => h)
          have d2 := hq1.cell c2 (fun h => h)
          have d3 := hq1.cell c3 (fun h => h)
          have d5 := hq1.cell c5 (fun h => h)
          have d6 := hq1.cell c6 (fun h => h)
          have d7 := hq1.cell c7 (fun h => h)
          have HRQ := Lib.hid (HR2.out.keeps hq1 (fun h => h))
          clear c0 c1 c2 c3 c4 c5 c6 c7 hix
          go_wp2_with fail
          go_region_held3 (fun w' => w'.cell? ⟨vb, 7, none⟩ = some (.int .u32 x7) ∧ w'.cell? ⟨vb, 5, none⟩ = some (.int .u32 x5) ∧ w'.cell? ⟨vb, 6, none⟩ = some (.int .u32 x6)) (first | exact ⟨d7, d5, d6⟩ | exact ⟨hkn.cell d7 hne2, hkn.cell d5 hne2, hkn.cell d6 hne2⟩ | go_keep)
            (first | (go_at_call 181; refine (right_any _ _ _ (by decide)).mono ?_; rintro e w' ⟨rfl, rfl⟩) | (go_at_call 180; refine (next_any n hlt2 gb _ (HRQ.out.keeps ((Keeps.refl No _).drew) (fun h => h))).mono ?_; rintro e wn ⟨rr, rfl, hrn, hkn⟩))
          have hkw1 : Keeps (fun k => k = gb) wr wn := (hq1.trans ((Keeps.refl No _).drew) (fun _ _ h => h) (fun _ _ h => h)).trans hkn (fun _ _ h => h.elim) (fun _ _ h => h)
          have hvn : Words 246 8 wn vb := HV2.out.keeps hkw1 hne2
          have hkwn : Keeps No w wn := HKW2.out.trans hkw1 (fun _ _ h => h) (fun i hi h => by omega)
          have e1 := hkn.cell d1 hne2
          have e2 := hkn.cell d2 hne2
          have e3 := hkn.cell d3 hne2
          have e5 := hkn.cell d5 hne2
          have e6 := hkn.cell d6 hne2
          have HVN := Lib.hid hvn; clear hvn
          have HRN := Lib.hid hrn; clear hrn
          have HKN := Lib.hid hkwn; clear hkwn hkw1 hkn
          clear d1 d2 d3 d5 d6 d7 hq1
          go_wp2_with fail
          go_quiet ((go_at_call 181; exact Calls.quiet_of_same (same_symm (right_any _ _ _ (by decide)))))
          obtain ⟨W2, hW2⟩ : ∃ W2, W2 = wn.drewN nq := ⟨_, rfl⟩
          have hk2 : Keeps No wn W2 := by rw [hW2]; exact Keeps.drewN (Keeps.refl _ _) nq
          rw [← hW2]
          clear hW2
          have f1 := hk2.cell e1 (fun h => h)
          have f2 := hk2.cell e2 (fun h => h)
          have f3 := hk2.cell e3 (fun h => h)
          have f5 := hk2.cell e5 (fun h => h)
          have f6 := hk2.cell e6 (fun h => h)
          obtain ⟨xs, hxl, hxh⟩ := HVN.out.keeps hk2 (fun h => h)
          have hsz8 : (u32V xs).toArray.size = 8 := by simp [u32V_length, hxl]
          obtain ⟨X, hX⟩ : ∃ X, X = (u32V xs).toArray := ⟨_, rfl⟩
          rw [← hX] at hsz8 hxh
          have hr2 : Words 151 16 W2 gb := HRN.out.keeps hk2 (fun h => h)
          have hk2w : Keeps No w W2 := HKN.out.same hk2
          have HXH := Lib.hid hxh; clear hxh
          have HS8 := Lib.hid hsz8; clear hsz8
          have HR3 := Lib.hid hr2; clear hr2
          have HK3 := Lib.hid hk2w; clear hk2w
          clear e1 e2 e3 e5 e6 hk2 hX hxl
          generalize IntKind.u32.wrap _ = T1
          generalize hT2 : (bits BinOp.xor IntKind.u32 (bits BinOp.xor IntKind.u32 (rotN 2 x0) (rotN 13 x0)) (rotN 22 x0) + _) % 4294967296 = T2
          clear hT2
          go_wp2_with (first | (refine wpList_store_row rfl 246 _ _ rfl vb _ (by rfl) (by rfl) 246 X HXH.out ?_ ?_ ?_ ?_; exact Tryd.size246; exact HS8.out; exact one8 _ _ _ _ _ _ _ _))
          go_roundw
          case rel => exact ⟨n + 1, by omega, by go_num, words8 HXH.out, HR3.out.keeps (((Keeps.refl (fun k => k = vb) W2).setRow _ _ (fun _ => rfl))) (fun h => hne2 h.symm), HK3.out.setRow _ _ (fun h => by omega)⟩
          case measure => simp [intOf]; omega
        · have hge2 : ¬ (n : Int) < 64 := by omega
          obtain ⟨ys, hyl, hyh⟩ := hv
          have hiy : ∀ i : Nat, i < 8 → ∃ c : Int, ∀ w, (Instr.index 246 (.agg (u32V ys).toArray) (.int .i64 i)).run Tryd.prog w = .ok (.int .u32 c) w := fun i hi =>
            ⟨ys[i]'(by omega), fun w => run_index_row 246 31 8 i _ _ .u32 Tryd.underlying246 Tryd.underlying31 Tryd.size31 hi (by simp [u32V, hyl, hi]) w⟩
          have hys : (Tryd.prog.info? 246).map (·.size) = some (u32V ys).toArray.size := by rw [Tryd.size246]; simp [u32V_length, hyl]
          obtain ⟨Y, hY⟩ : ∃ Y, Y = (u32V ys).toArray := ⟨_, rfl⟩
          rw [← hY] at hyh hiy hys
          have HYH := Lib.hid hyh; clear hyh
          have HIY := Lib.hid hiy; clear hiy
          have HYS := Lib.hid hys; clear hys hY hyl
          have hh8 := HH.out.keeps hkW (fun h => h)
          clear hr
          go_wp2_with (first | (refine wpList_load_row rfl 246 _ rfl vb (by rfl) 246 _ (0, 0) _ HYH.out Tryd.underlying246 rfl HYS.out ?_))
          go_loopw [140] (fun i W => ∃ k : Nat, k ≤ 8 ∧ i = .int .i64 k ∧ Words 246 8 W hb ∧ Keeps (fun b => b = hb) w W) (fun i _ => 8 - (intOf i).toNat)
          case atStart => exact ⟨0, Nat.zero_le _, rfl, hh8, hkW.mono (fun _ _ h => h.elim)⟩
          case round =>
            clear hh8 hkW
            obtain ⟨m, hm, rfl, hhm, hkm⟩ := hrel
            by_cases hlt3 : m < 8
            · obtain ⟨c, hix⟩ := HIY.out m hlt3
              obtain ⟨y, hy⟩ := hhm.cell m hlt3
              have hyf := hhm.free m
              have j1 : (m : Int) < 8 := by omega
              have j2 : ¬ (m : Int) < 0 := by omega
              have HM := Lib.hid hhm; clear hhm
              have HKM := Lib.hid hkm; clear hkm
              go_wp2
              go_region
              go_wp2
              go_roundw
              case rel => exact ⟨m + 1, by omega, by go_num, (HM.out.set m _).keeps ((Keeps.refl No _).drew) (fun h => h), (HKM.out.setCell _ _ (fun _ => rfl)).drew⟩
              case measure => simp [intOf]; omega
            · have hge3 : ¬ (m : Int) < 8 := by omega
              go_wp2
              go_end0
              exact ⟨rfl, hhm, hkm⟩
end Go.Proofs.YtpniohbjgpncmaaDoor
