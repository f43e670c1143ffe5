/- The law RecordSeals: conditions: none. -/
import Derived.Test.YtpniohbjgpncmaaDoorT2
namespace Go.Proofs.YtpniohbjgpncmaaDoor
open Go.RowKit

theorem takeVal_form (l : List UInt8) : ∃ b u s : Nat, ∃ er : Int, takeVal l = .tuple #[.agg #[.int .i64 b, .int .i64 u, .int .u32 s], .int .i64 er] := by
  unfold takeVal headVal
  split
  · exact ⟨_, _, _, _, rfl⟩
  · exact ⟨0, 0, 0, 3, rfl⟩
def SealsPost (w : World) (e : Ending) (w' : World) : Prop := e = .returned (.bool true) ∧ Keeps No w w'

set_option maxRecDepth 20000 in
set_option maxHeartbeats 400000 in
theorem seals_long (box : Int) (r b : ByteArray) (w : World) (ht : Halves w) (h : (3000 : Int) < r.size ∨ (¬ (3000 : Int) < r.size ∧ (3000 : Int) < b.size)) :
    Calls Tryd.prog 4 #[.int .i64 box, .string r, .string b] w (SealsPost w) := by
  have HT := Lib.hid ht; clear ht
  rcases h with h | ⟨h, h2⟩
  · go_enter Tryd.func4, Tryd.ntmps4
    generalize hc5 : (Code.region 3 _ false).seq _ = c5
    have HC5 := Lib.hid hc5; clear hc5
    go_wp2_with (go_at_call 10; refine (wakes_any _ HT.out).mono ?_; rintro e w1 ⟨rfl, hk⟩)
    go_ret
    exact ⟨rfl, hk⟩
  · go_enter Tryd.func4, Tryd.ntmps4
    generalize hc5 : (Code.region 3 _ false).seq _ = c5
    have HC5 := Lib.hid hc5; clear hc5
    go_wp2_with (go_at_call 10; refine (wakes_any _ HT.out).mono ?_; rintro e w1 ⟨rfl, hk⟩)
    go_ret
    exact ⟨rfl, hk⟩

set_option maxRecDepth 20000 in
set_option maxHeartbeats 800000 in
theorem seals_bad (box : Int) (r b : ByteArray) (w : World) (ht : Halves w) (h1 : ¬ (3000 : Int) < r.size) (h2 : ¬ (3000 : Int) < b.size) (hbad : box < 0 ∨ (¬ box < 0 ∧ 65535 < box) ∨ (¬ box < 0 ∧ ¬ 65535 < box ∧ (2048 : Int) < r.size)) :
    Calls Tryd.prog 4 #[.int .i64 box, .string r, .string b] w (SealsPost w) := by
  have HT := Lib.hid ht; clear ht
  have hcr := fun W => run_bytes_of_string (P := Tryd.prog) W 9 27 5 r Tryd.underlying9 Tryd.underlying27 Tryd.underlying5
  have hcb := fun W => run_bytes_of_string (P := Tryd.prog) W 9 27 5 b Tryd.underlying9 Tryd.underlying27 Tryd.underlying5
  have hbl : (bl b).length = b.size := bl_length b
  have hb6 : b.size < 1000000 := by omega
  obtain ⟨tb, tu, ts, er, htv⟩ := takeVal_form (bl b)
  have HTV := Lib.hid htv; clear htv
  have hsl : ∀ W v, Rd W 1 v r.size (byteCells r) → Calls Tryd.prog 11 #[.int .i64 box, v] W fun e w' => e = .returned (.tuple #[.slice none 0 0, .int .i64 2]) ∧ W = w' := fun W v hv => by
    rw [byteCells_bl, ← bl_length] at hv
    exact seal_no box v (bl r) W hv (by rw [bl_length]; omega)
  have htk : ∀ W v, Rd W 1 v b.size (byteCells b) → Halves W → Calls Tryd.prog 14 #[v] W fun e w' => e = .returned (.tuple #[.agg #[.int .i64 tb, .int .i64 tu, .int .u32 ts], .int .i64 er]) ∧ Keeps No W w' := fun W v hv hh => by
    rw [byteCells_bl, ← bl_length] at hv
    have := rtake_all v (bl b) W hv (by rw [hbl]; exact hb6) hh
    refine this.mono fun e w' hx => ?_
    obtain ⟨he, hk⟩ := hx
    rw [HTV.out] at he
    exact ⟨he, hk⟩
  have hrt : ∀ W, Calls Tryd.prog 15 #[.string b] W fun e w' => e = .returned (.tuple #[.agg #[.int .i64 tb, .int .i64 tu, .int .u32 ts], .int .i64 er]) ∧ Keeps No W w' := fun W => by
    refine (reftake_all b W).mono fun e w' hx => ?_
    obtain ⟨he, hk⟩ := hx
    rw [HTV.out] at he
    exact ⟨he, hk⟩
  have HSL := Lib.hid hsl; clear hsl
  have HTK := Lib.hid htk; clear htk
  have HRT := Lib.hid hrt; clear hrt
  clear hbl hb6
  rcases hbad with h | ⟨h, h3⟩ | ⟨h, h3, h4⟩
  all_goals go_enter Tryd.func4, Tryd.ntmps4
  all_goals generalize hc5 : (Code.region 10 _ false).seq _ = c5
  all_goals have HC5 := Lib.hid hc5
  all_goals clear hc5
  all_goals go_wp2_with (go_at_call 11; refine (HSL.out _ _ (rd_bytesRow w r)).mono ?_; rintro e w1 ⟨rfl, rfl⟩)
  all_goals have hk0 : Keeps No w _ := ((Keeps.refl No w).alloc (.cells (bytesRow r (grownCap w r.size 0 5)) 5 ((bytesRow r (grownCap w r.size 0 5)).size, (bytesRow r (grownCap w r.size 0 5)).size + 1))).drew
  all_goals generalize World.drew _ = w0 at hk0 ⊢
  all_goals rw [← HC5.out]
  all_goals go_wp2_with (first | (go_at_call 14; refine (HTK.out _ _ (rd_bytesRow w0 b) (HT.out.keeps ((hk0.drew).alloc _))).mono ?_; rintro e w1 ⟨rfl, hk1⟩; have hkw1 := ((hk0.drew).alloc _).same hk1; clear hk1) | (go_at_call 15; refine (HRT.out _).mono ?_; rintro e w2 ⟨rfl, hk2⟩; have g0 := hk2.heap (heap_alloc_new w1 _) (fun h => h); have hkw2 := (hkw1.alloc _).same hk2; clear hk2) | (refine wpList_load_row rfl 36 _ rfl w1.heap.size (by rfl) 36 #[.int .i64 tb, .int .i64 tu, .int .u32 ts] (0, 0) _ ((keeps_alloc w2 _).heap g0 (fun h => h)) Tryd.underlying36 rfl Tryd.size36 ?_) | (go_at_call 10; refine (wakes_any _ (HT.out.keeps (hkw2.alloc _))).mono ?_; rintro e w3 ⟨rfl, hk3⟩))
  all_goals go_ret
  all_goals exact ⟨rfl, (hkw2.alloc _).same hk3⟩
end Go.Proofs.YtpniohbjgpncmaaDoor
