import Derived.Test.YtpniohbjgpncmaaDoorP3
namespace Go.Proofs.YtpniohbjgpncmaaDoor
open Go.RowKit

set_option maxRecDepth 20000 in
set_option maxHeartbeats 400000 in
theorem hash1_any (b : Nat) (l : List UInt8) (hl : l.length = 32) (w : World) (hb : w.heap[b]? = some (.cells (bytesV l).toArray 70 (0, 0))) :
    Calls Tryd.prog 87 #[.pointer (some ⟨b, 0, none⟩)] w (MakePost l.length (bytesV l) w) := by
  have HB := Lib.hid hb; clear hb
  have HL := Lib.hid hl; clear hl
  go_enter Tryd.func87, Tryd.ntmps87
  go_wp2
  go_ret
  rw [HL.out]
  exact ⟨_, rfl, rd_block HB.out 1 32 32 _ (by simp [bytesV, HL.out]) (Nat.le_refl _) (fun j u h => by simpa using h), Keeps.refl _ _⟩

theorem rd_bytesRow (w : World) (s : ByteArray) : Rd (w.drew.alloc (.cells (bytesRow s (grownCap w s.size 0 5)) 5 ((bytesRow s (grownCap w s.size 0 5)).size, (bytesRow s (grownCap w s.size 0 5)).size + 1))) 1 (.slice (some ⟨w.heap.size, 0, none⟩) s.size (grownCap w s.size 0 5)) s.size (byteCells s) := by
  refine rd_block (heap_alloc_new w.drew _) 1 _ _ _ (by rw [byteCells_length, Nat.mul_one]) (grownCap_ge _ _ _ _) (fun j u h => ?_)
  have hj : j < s.size := by
    have := (List.getElem?_eq_some_iff.1 h).1
    rwa [byteCells_length] at this
  unfold bytesRow
  rw [Array.getElem?_append_left (by rw [Array.size_map]; exact hj)]
  simpa [byteCells] using h

set_option maxRecDepth 20000 in
set_option maxHeartbeats 400000 in
theorem text1_any (b : Nat) (s : ByteArray) (w : World) (hb : w.cell? ⟨b, 0, none⟩ = some (.string s)) :
    Calls Tryd.prog 88 #[.pointer (some ⟨b, 0, none⟩)] w (MakePost s.size (byteCells s) w) := by
  have hcv := run_bytes_of_string (P := Tryd.prog) w 9 27 5 s Tryd.underlying9 Tryd.underlying27 Tryd.underlying5
  go_enter Tryd.func88, Tryd.ntmps88
  go_wp2
  go_ret
  exact ⟨_, rfl, rd_bytesRow w s, ((Keeps.refl _ w).drew).alloc _⟩

set_option maxRecDepth 20000 in
set_option maxHeartbeats 400000 in
theorem name1_any (b : Nat) (s : ByteArray) (w : World) (hb : w.cell? ⟨b, 0, none⟩ = some (.string s)) (hs : s.size < 256) :
    Calls Tryd.prog 89 #[.pointer (some ⟨b, 0, none⟩)] w (MakePost (1 + s.size) (.int .u8 s.size :: byteCells s) w) := by
  obtain ⟨i0, hi, hz0, hz1, hz2⟩ := info_parts Tryd.info5
  have hlb := World.block_lt_of_cell? w _ hb
  go_enter Tryd.func89, Tryd.ntmps89
  go_wp2_with (at_builtin; go_must (refine wpList_append_any rfl _ _ 27 9 rfl 5 i0 _ 1 1 Tryd.underlying27 hi hz0 hz1 hz2 rfl (by decide) _ 1 [.int .u8 s.size] (by rfl) (own_built _ 5 1 1 [_] rfl (by decide)) _ s.size (byteCells s) (by rfl) (Src.ofString _ Tryd.underlying9 s) (by unfold maxLen; omega) (by omega) ?_); intro ao cp w1 hown1 hk1 hnil hat)
  go_wp2
  go_ret
  have hsz : Value.int .u8 (s.size : Int) :: byteCells s = [.int .u8 (s.size : Int)] ++ byteCells s := rfl
  rw [hsz]
  exact ⟨_, rfl, Own.rd hown1, ((Keeps.refl No w).alloc _).trans hk1 (fun _ _ h => h) (fun k hk e => by simp [Value.ownBlock] at e; omega)⟩

def bl (s : ByteArray) : List UInt8 := s.data.toList
theorem bl_length (s : ByteArray) : (bl s).length = s.size := by unfold bl; rw [Array.length_toList]; rfl
theorem byteCells_bl (s : ByteArray) : byteCells s = bytesV (bl s) := rfl

theorem alloc_cell (w : World) (x : Value) (t : TypeId) : (w.alloc (.cells #[x] t)).cell? ⟨w.heap.size, 0, none⟩ = some x := by
  rw [cell_of_heap (heap_alloc_new w _) 0]; rfl
theorem keeps_alloc (w : World) (a : Obj) : Keeps No w (w.alloc a) := (Keeps.refl _ w).alloc a

set_option maxRecDepth 20000 in
set_option maxHeartbeats 400000 in
theorem pk_hash (p : Nat) (v : Value) (bs l : List UInt8) (er : Int) (hl : l.length = 32) (w : World) (hp : Pk w p v bs er) (hlen : bs.length < 900000) :
    Calls Tryd.prog 39 #[.pointer (some ⟨p, 0, none⟩), .agg (bytesV l).toArray] w (PutsPost w p v (bs ++ l) er) := by
  have HP := Lib.hid hp; clear hp
  have HL := Lib.hid hl; clear hl
  have hcf : ∀ W cap, (callFunc 87 cap).run Tryd.prog W = .ok (.enter 87 cap) W := fun _ _ => by kernel_rfl
  go_enter Tryd.func39, Tryd.ntmps39
  go_wp2_with fail
  refine (puts_yes p v bs l er 87 _ _ (HP.out.no (keeps_alloc _ _)) (fun W hW => hash1_any _ l HL.out W (hW.heap (heap_alloc_new w _) (fun h => h))) (fun W => hcf W _) (by rw [HL.out]; omega)).mono ?_
  rintro e w' hx
  obtain ⟨rfl, hy⟩ := (hx.from (keeps_alloc _ _))
  clear hx
  go_wp2
  go_ret
  exact ⟨rfl, hy⟩

set_option maxRecDepth 20000 in
set_option maxHeartbeats 400000 in
theorem pk_text (p : Nat) (v : Value) (bs : List UInt8) (s : ByteArray) (er : Int) (w : World) (hp : Pk w p v bs er) (hlen : bs.length < 90000) (hs : s.size < 900000) :
    Calls Tryd.prog 40 #[.pointer (some ⟨p, 0, none⟩), .string s] w (PutsPost w p v (bs ++ bl s) er) := by
  have HP := Lib.hid hp; clear hp
  have hcf : ∀ W cap, (callFunc 88 cap).run Tryd.prog W = .ok (.enter 88 cap) W := fun _ _ => by kernel_rfl
  go_enter Tryd.func40, Tryd.ntmps40
  go_wp2_with fail
  refine (puts_yes p v bs (bl s) er 88 _ _ (HP.out.no (keeps_alloc _ _)) (fun W hW => by rw [bl_length]; exact text1_any _ s W (hW.cell (alloc_cell w _ _) (fun h => h))) (fun W => hcf W _) (by rw [bl_length]; omega)).mono ?_
  rintro e w' hx
  obtain ⟨rfl, hy⟩ := (hx.from (keeps_alloc _ _))
  clear hx
  go_wp2
  go_ret
  exact ⟨rfl, hy⟩

theorem name_list (s : ByteArray) (hs : s.size < 256) : Value.int .u8 (s.size : Int) :: byteCells s = bytesV (UInt8.ofNat s.size :: bl s) := by
  simp [bytesV, byteCells, bl, UInt8.toNat_ofNat']
  omega

set_option maxRecDepth 20000 in
set_option maxHeartbeats 400000 in
theorem pk_name (p : Nat) (v : Value) (bs : List UInt8) (s : ByteArray) (er : Int) (w : World) (hp : Pk w p v bs er) (hlen : bs.length < 90000) (hs : s.size < 256) :
    Calls Tryd.prog 41 #[.pointer (some ⟨p, 0, none⟩), .string s] w (PutsPost w p v (bs ++ (UInt8.ofNat s.size :: bl s)) er) := by
  have HP := Lib.hid hp; clear hp
  have hcf : ∀ W cap, (callFunc 89 cap).run Tryd.prog W = .ok (.enter 89 cap) W := fun _ _ => by kernel_rfl
  have hq : (s.size : Int) < 256 := by omega
  go_enter Tryd.func41, Tryd.ntmps41
  go_wp2_with fail
  refine (puts_yes p v bs (UInt8.ofNat s.size :: bl s) er 89 _ _ (HP.out.no (keeps_alloc _ _)) (fun W hW => by
    have h := name1_any _ s W (hW.cell (alloc_cell w _ _) (fun h => h)) hs
    rw [name_list s hs] at h
    rw [List.length_cons, bl_length, Nat.add_comm]
    exact h) (fun W => hcf W _) (by rw [List.length_cons, bl_length]; omega)).mono ?_
  rintro e w' hx
  obtain ⟨rfl, hy⟩ := (hx.from (keeps_alloc _ _))
  clear hx
  go_wp2
  go_ret
  exact ⟨rfl, hy⟩
set_option maxRecDepth 20000 in
set_option maxHeartbeats 400000 in
theorem pk_name_no (p : Nat) (v : Value) (bs : List UInt8) (s : ByteArray) (er : Int) (w : World) (hp : Pk w p v bs er) (hs : ¬ s.size < 256) :
    Calls Tryd.prog 41 #[.pointer (some ⟨p, 0, none⟩), .string s] w (PutsPost w p v bs (erNo er)) := by
  have HP := Lib.hid hp; clear hp
  have hq : ¬ (s.size : Int) < 256 := by omega
  go_enter Tryd.func41, Tryd.ntmps41
  go_wp2_with fail
  refine (puts_no p v bs er _ _ (HP.out.no (keeps_alloc _ _))).mono ?_
  rintro e w' hx
  obtain ⟨rfl, hy⟩ := (hx.from (keeps_alloc _ _))
  clear hx
  go_wp2
  go_ret
  exact ⟨rfl, hy⟩
end Go.Proofs.YtpniohbjgpncmaaDoor
