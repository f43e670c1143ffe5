/- The law RecordSeals where the head is sealed: conditions: none. -/
import Derived.Test.YtpniohbjgpncmaaDoorT3
namespace Go.Proofs.YtpniohbjgpncmaaDoor
open Go.RowKit

set_option maxRecDepth 20000 in
set_option maxHeartbeats 800000 in
theorem seals_good (n : Nat) (r b : ByteArray) (w : World) (ht : Halves w) (h1 : ¬ (3000 : Int) < r.size) (h2 : ¬ (3000 : Int) < b.size) (hn : n < 65536) (hr : r.size ≤ 2048) :
    Calls Tryd.prog 4 #[.int .i64 n, .string r, .string b] w (SealsPost w) := by
  have HT := Lib.hid ht; clear ht
  have hcr := fun W => run_bytes_of_string (P := Tryd.prog) W 9 27 5 r Tryd.underlying9 Tryd.underlying27 Tryd.underlying5
  have hcb := fun W => run_bytes_of_string (P := Tryd.prog) W 9 27 5 b Tryd.underlying9 Tryd.underlying27 Tryd.underlying5
  have hbl : (bl b).length = b.size := bl_length b
  have hb6 : b.size < 1000000 := by omega
  obtain ⟨tb, tu, ts, er, htv⟩ := takeVal_form (bl b)
  have HTV := Lib.hid htv; clear htv
  obtain ⟨Cr, hCr⟩ : ∃ Cr, Cr = crcOf (bl r) := ⟨_, rfl⟩
  obtain ⟨D, hD⟩ : ∃ D, D = headBytes n r.size Cr := ⟨_, rfl⟩
  have hCl : Cr < 4294967296 := by rw [hCr]; exact crcOf_lt _
  have hsl : ∀ W v, Rd W 1 v r.size (byteCells r) → Halves W → Calls Tryd.prog 11 #[.int .i64 n, v] W (SlPost D W) := fun W v hv hh => by
    rw [byteCells_bl, ← bl_length] at hv
    refine (seal_yes n v (bl r) W hv hn (by rw [bl_length]; exact hr) hh).mono fun e w' h => ?_
    obtain ⟨ao, cp, he, ho, hk, _⟩ := h
    rw [bl_length, ← hCr, ← hD] at he ho
    exact ⟨ao, cp, he, Own.rd ho, hk⟩
  have hsum : ∀ W, Calls Tryd.prog 12 #[.string r] W fun e w' => e = .returned (.int .u32 Cr) ∧ W = w' := fun W => by rw [hCr]; exact refsum_any r W (by omega)
  have hput : ∀ W, Calls Tryd.prog 13 #[.agg #[.int .i64 n, .int .i64 r.size, .int .u32 Cr]] W fun e w' => e = .returned (.string ⟨D.toArray⟩) ∧ Keeps No W w' := fun W => by rw [hD]; exact refput_any n r.size Cr hn (by omega) hCl W
  have HSUM := Lib.hid hsum; clear hsum
  have HPUT := Lib.hid hput; clear hput
  have q1 : ¬ (n : Int) < 0 := by omega
  have q2 : ¬ (65535 : Int) < n := by omega
  have q3 : ¬ (2048 : Int) < r.size := by omega
  have HCr := Lib.hid hCr; clear hCr hCl
  have HD := Lib.hid hD; clear hD
  have htk : ∀ W v, Rd W 1 v b.size (byteCells b) → Halves W → Calls Tryd.prog 14 #[v] W fun e w' => e = .returned (.tuple #[.agg #[.int .i64 tb, .int .i64 tu, .int .u32 ts], .int .i64 er]) ∧ Keeps No W w' := fun W v hv hh => by
    rw [byteCells_bl, ← bl_length] at hv
    have := rtake_all v (bl b) W hv (by rw [hbl]; exact hb6) hh
    refine this.mono fun e w' hx => ?_
    obtain ⟨he, hk⟩ := hx
    rw [HTV.out] at he
    exact ⟨he, hk⟩
  have hrt : ∀ W, Calls Tryd.prog 15 #[.string b] W fun e w' => e = .returned (.tuple #[.agg #[.int .i64 tb, .int .i64 tu, .int .u32 ts], .int .i64 er]) ∧ Keeps No W w' := fun W => by
    refine (reftake_all b W).mono fun e w' hx => ?_
    obtain ⟨he, hk⟩ := hx
    rw [HTV.out] at he
    exact ⟨he, hk⟩
  have HSL := Lib.hid hsl; clear hsl
  have HTK := Lib.hid htk; clear htk
  have HRT := Lib.hid hrt; clear hrt
  clear hbl hb6
  clear hn hr
  go_enter Tryd.func4, Tryd.ntmps4
  generalize hc5 : (Code.region 10 _ false).seq _ = c5
  have HC5 := Lib.hid hc5
  clear hc5
  generalize hc8 : (Code.region 8 _ true) = c8
  have HC8 := Lib.hid hc8
  clear hc8
  go_wp2_with (first | (go_at_call 11; refine (HSL.out _ _ (rd_bytesRow w r) (HT.out.keeps (((Keeps.refl No w).drew).alloc _))).mono ?_; rintro e w1 ⟨ao, cp, rfl, hrd, hk1⟩) | (go_at_call 12; refine (HSUM.out _).mono ?_; rintro e w2 ⟨rfl, rfl⟩))
  obtain ⟨w0, hw0⟩ : ∃ w0, w0 = w1.alloc (.cells #[.int .i64 n, .int .i64 r.size, .int .u32 Cr] 34) := ⟨_, rfl⟩
  have hk0 : Keeps No w w0 := by rw [hw0]; exact ((((Keeps.refl No w).drew).alloc _).same hk1).alloc _
  have hh0 : w0.heap[w1.heap.size]? = some (.cells #[.int .i64 n, .int .i64 r.size, .int .u32 Cr] 34) := by rw [hw0]; exact heap_alloc_new _ _
  have hrd0 : Rd w0 1 (.slice ao D.length cp) D.length (bytesV D) := by rw [hw0]; exact hrd.keeps (keeps_alloc _ _) (fun _ _ h => h)
  rw [← hw0]
  clear hw0 hrd hk1
  have x0 := cell_of_heap hh0 0
  have x1 := cell_of_heap hh0 1
  have x2 := cell_of_heap hh0 2
  simp at x0 x1 x2
  clear hh0
  have hcv0 := run_text (W := w0.drew) (hrd0.keeps ((Keeps.refl No w0).drew) (fun _ _ h => h)) 27 5 9 Tryd.underlying27 Tryd.underlying5 Tryd.underlying9
  generalize w1.heap.size = g at x0 x1 x2 ⊢
  have hkd : Keeps No w0 w0.drew := (Keeps.refl No w0).drew
  have HRD := Lib.hid hrd0; clear hrd0
  rw [← HC8.out]
  go_region_held3 (fun w' => w'.cell? ⟨g, 0, none⟩ = some (.int .i64 n) ∧ w'.cell? ⟨g, 1, none⟩ = some (.int .i64 r.size) ∧ w'.cell? ⟨g, 2, none⟩ = some (.int .u32 Cr) ∧ Sem.run Tryd.prog (convert 27 9 (.slice ao D.length cp)) w' = .ok (.string ⟨D.toArray⟩) w') (first | exact ⟨x0, x1, x2, hcv0⟩ | exact ⟨hk4.cell x0 (fun h => h), hk4.cell x1 (fun h => h), hk4.cell x2 (fun h => h), hcv4⟩)
    ((go_at_call 13; refine (HPUT.out _).mono ?_; rintro e w4 ⟨rfl, hk4⟩; have hk04 := hkd.same hk4; have hcv4 := run_text (HRD.out.keeps hk04 (fun _ _ h => h)) 27 5 9 Tryd.underlying27 Tryd.underlying5 Tryd.underlying9))
  all_goals have hk5 := hk0.same hk04
  all_goals clear hk04 hkd hk0 x0 x1 x2 hcv0 hcv4
  all_goals go_wp2
  all_goals rw [← HC5.out]
  all_goals go_wp2_with (first | (go_at_call 14; refine (HTK.out _ _ (rd_bytesRow w4 b) (HT.out.keeps ((hk5.drew).alloc _))).mono ?_; rintro e w1 ⟨rfl, hk1⟩; have hkw1 := ((hk5.drew).alloc _).same hk1; clear hk1) | (go_at_call 15; refine (HRT.out _).mono ?_; rintro e w2 ⟨rfl, hk2⟩; have g0 := hk2.heap (heap_alloc_new w1 _) (fun h => h); have hkw2 := (hkw1.alloc _).same hk2; clear hk2) | (refine wpList_load_row rfl 36 _ rfl w1.heap.size (by rfl) 36 #[.int .i64 tb, .int .i64 tu, .int .u32 ts] (0, 0) _ ((keeps_alloc w2 _).heap g0 (fun h => h)) Tryd.underlying36 rfl Tryd.size36 ?_) | (go_at_call 10; refine (wakes_any _ (HT.out.keeps (hkw2.alloc _))).mono ?_; rintro e w3 ⟨rfl, hk3⟩))
  all_goals go_ret
  all_goals exact ⟨rfl, (hkw2.alloc _).same hk3⟩
theorem seals_any (box : Int) (r b : ByteArray) (w : World) (ht : Halves w) : Calls Tryd.prog 4 #[.int .i64 box, .string r, .string b] w (SealsPost w) := by
  by_cases h1 : (3000 : Int) < r.size
  · exact seals_long box r b w ht (.inl h1)
  by_cases h2 : (3000 : Int) < b.size
  · exact seals_long box r b w ht (.inr ⟨h1, h2⟩)
  by_cases h3 : box < 0
  · exact seals_bad box r b w ht h1 h2 (.inl h3)
  by_cases h4 : 65535 < box
  · exact seals_bad box r b w ht h1 h2 (.inr (.inl ⟨h3, h4⟩))
  by_cases h5 : (2048 : Int) < r.size
  · exact seals_bad box r b w ht h1 h2 (.inr (.inr ⟨h3, h4, h5⟩))
  · obtain ⟨n, rfl⟩ := Int.eq_ofNat_of_zero_le (by omega : 0 ≤ box)
    exact seals_good n r b w ht h1 h2 (by omega) (by omega)
end Go.Proofs.YtpniohbjgpncmaaDoor
