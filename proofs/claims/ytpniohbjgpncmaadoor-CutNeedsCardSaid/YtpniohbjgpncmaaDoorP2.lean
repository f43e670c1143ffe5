import Derived.Test.YtpniohbjgpncmaaDoorP1
import Derived.Deep.RegionLaw
namespace Go.Proofs.YtpniohbjgpncmaaDoor
open Go.RowKit

/-- A packer in block p: its row v has the bytes bs; its error. -/
structure Pk (w : World) (p : Nat) (v : Value) (bs : List UInt8) (er : Int) : Prop where
  heap : w.heap[p]? = some (.cells #[v, .int .i64 er] 162 (0, 0))
  own : w.ownsRow 0 5 1 v bs.length (bytesV bs)
  ne : v.ownBlock ≠ some p

/-- What a call on a packer may have written, and where its row lies then. -/
structure Gr (p : Nat) (v : Value) (w : World) (v' : Value) (w' : World) : Prop where
  keeps : Keeps (fun k => k = p ∨ v.ownBlock = some k) w w'
  row : v'.ownBlock = v.ownBlock ∨ ∀ k, v'.ownBlock = some k → w.heap.size ≤ k

def PutsPost (w : World) (p : Nat) (v : Value) (bs : List UInt8) (er : Int) (e : Ending) (w' : World) : Prop :=
  e = .returned (.pointer (some ⟨p, 0, none⟩)) ∧ ∃ v', Pk w' p v' bs er ∧ Gr p v w v' w'

def MakePost (n : Nat) (xs : List Value) (W : World) (e : Ending) (W' : World) : Prop := ∃ v, e = .returned v ∧ Rd W' 1 v n xs ∧ Keeps No W W'

theorem puts_close {w w1 w2 : World} {p : Nat} {v : Value} {bs xs : List UInt8} {er : Int} (hp : Pk w p v bs er) (hk1 : Keeps No w.drew w1) {ao : Option Addr} {cp : Nat}
    (hown2 : w2.ownsRow 0 5 1 (.slice ao (bs.length + xs.length) cp) (bs.length + xs.length) (bytesV bs ++ bytesV xs))
    (hk2 : Keeps (fun k => v.ownBlock = some k) w1 w2)
    (hat : (Value.slice ao (bs.length + xs.length) cp).ownBlock = v.ownBlock ∨ (Value.slice ao (bs.length + xs.length) cp).ownBlock = some w1.heap.size) :
    PutsPost w p v (bs ++ xs) er (.returned (.pointer (some ⟨p, 0, none⟩))) (w2.setCell ⟨p, 0, none⟩ (.slice ao (bs.length + xs.length) cp)) := by
  have h1 : w1.heap[p]? = _ := hk1.heap (w := w.drew) hp.heap (fun h => h)
  have h2 : w2.heap[p]? = _ := hk2.heap h1 hp.ne
  have hlp := heap_lt hp.heap
  have hs1 := hk1.size
  have hne : (Value.slice ao (bs.length + xs.length) cp).ownBlock ≠ some p := by
    rcases hat with h | h
    · rw [h]; exact hp.ne
    · rw [h]; intro e; simp at e; simp at hs1; omega
  have hk : Keeps (fun k => k = p ∨ v.ownBlock = some k) w w2 :=
    (((Keeps.refl No w).drew).same hk1).trans hk2 (fun _ _ h => h.elim) (fun _ _ h => .inr h)
  refine ⟨rfl, _, ⟨?_, ?_, hne⟩, ⟨hk.setCell _ _ (fun _ => .inl rfl), ?_⟩⟩
  · rw [heap_setCell_same _ h2]; rfl
  · have : bytesV (bs ++ xs) = bytesV bs ++ bytesV xs := by simp [bytesV]
    rw [this, List.length_append]
    exact Own.keeps hown2 ((Keeps.refl (fun k => k = p) w2).setCell ⟨p, 0, none⟩ _ (fun _ => rfl)) (fun b hb e => hne (e ▸ hb))
  · rcases hat with h | h
    · exact .inl h
    · refine .inr fun k hk => ?_
      rw [h] at hk
      simp at hk hs1
      omega
theorem bytesV_one (l : List UInt8) : ∀ u ∈ bytesV l, u.oneCell' = true := by
  intro u hu
  obtain ⟨c, _, rfl⟩ := List.mem_map.1 hu
  rfl
set_option maxRecDepth 20000 in
set_option maxHeartbeats 400000 in
theorem puts_yes (p : Nat) (v : Value) (bs xs : List UInt8) (er : Int) (F : Nat) (cap : Array Value) (w : World) (hp : Pk w p v bs er)
    (hmk : ∀ W, Keeps No w W → Calls Tryd.prog F cap W (MakePost xs.length (bytesV xs) W)) (hcf : ∀ W, (callFunc F cap).run Tryd.prog W = .ok (.enter F cap) W) (hlen : bs.length + xs.length < 1000000) :
    Calls Tryd.prog 85 #[.pointer (some ⟨p, 0, none⟩), .bool true, .func (.func F) #[] cap] w (PutsPost w p v (bs ++ xs) er) := by
  obtain ⟨i0, hi, hz0, hz1, hz2⟩ := info_parts Tryd.info5
  obtain ⟨hh, hown, hne⟩ := hp
  have hc0 := cell_of_heap hh 0
  have hc1 := cell_of_heap hh 1
  have hf := frozen_of_heap hh 0
  have hlp : p < w.drew.heap.size := (Array.getElem?_eq_some_iff.1 hh).1
  simp at hc0 hc1
  have HM := Lib.hid hmk; clear hmk
  have HH := Lib.hid hh; clear hh
  have HN := Lib.hid hne; clear hne
  go_enter Tryd.func85, Tryd.ntmps85
  go_wp2_with fail
  go_region_law (first | (refine step_append_any (by rfl) _ _ _ _ (by rfl) 5 i0 _ 1 1 Tryd.underlying27 hi hz0 hz1 hz2 rfl (by decide) v bs.length (bytesV bs) (by rfl) (Own.keeps (w := w.drew) hown hk1 (fun _ _ h => h)) v1 xs.length (bytesV xs) (by rfl) (Rd.src Tryd.underlying27 hrd (bytesV_one _)) (by unfold maxLen; omega) (by omega) ?_; intro ao cp w2 hown2 hk2 hnil hat; have hf2 := (hk2.frozen (p := ⟨p, 0, none⟩) (Nat.lt_of_lt_of_le hlp hk1.size) HN.out).trans ((hk1.frozen (p := ⟨p, 0, none⟩) hlp (fun h => h)).trans hf); have hd2 := hk2.cell (hk1.cell hc0 (fun h => h)) HN.out) | (go_simp; refine (HM.out _ ((Keeps.refl _ _).drew)).mono ?_; rintro e w1 ⟨v1, rfl, hrd, hk1⟩; have hc01 := hk1.cell hc0 (fun h => h)))
  all_goals go_wp2
  all_goals go_ret
  all_goals exact puts_close ⟨HH.out, hown, HN.out⟩ hk1 hown2 hk2 hat

theorem puts_no_close {w : World} {p : Nat} {v : Value} {bs : List UInt8} {er : Int} (er' : Int) (hp : Pk w p v bs er) :
    PutsPost w p v bs er' (.returned (.pointer (some ⟨p, 0, none⟩))) (w.setCell ⟨p, 1, none⟩ (.int .i64 er')) := by
  refine ⟨rfl, v, ⟨by rw [heap_setCell_same _ hp.heap]; rfl, ?_, hp.ne⟩, ⟨(Keeps.refl _ w).setCell _ _ (fun _ => .inl rfl), .inl rfl⟩⟩
  exact Own.keeps hp.own ((Keeps.refl (fun k => k = p) w).setCell ⟨p, 1, none⟩ _ (fun _ => rfl)) (fun b hb e => hp.ne (e ▸ hb))
theorem puts_same {w : World} {p : Nat} {v : Value} {bs : List UInt8} {er : Int} (hp : Pk w p v bs er) :
    PutsPost w p v bs er (.returned (.pointer (some ⟨p, 0, none⟩))) w := ⟨rfl, v, hp, Keeps.refl _ _, .inl rfl⟩

set_option maxRecDepth 20000 in
set_option maxHeartbeats 400000 in
theorem puts_no0 (p : Nat) (v : Value) (bs : List UInt8) (f : Value) (w : World) (hp : Pk w p v bs 0) :
    Calls Tryd.prog 85 #[.pointer (some ⟨p, 0, none⟩), .bool false, f] w (PutsPost w p v bs 6) := by
  have hc1 := cell_of_heap hp.heap 1
  have hf := frozen_of_heap hp.heap 1
  simp at hc1
  go_enter Tryd.func85, Tryd.ntmps85
  go_wp2
  go_ret
  exact puts_no_close 6 hp
set_option maxRecDepth 20000 in
set_option maxHeartbeats 400000 in
theorem puts_no1 (p : Nat) (v : Value) (bs : List UInt8) (er : Int) (he : (er == 0) = false) (f : Value) (w : World) (hp : Pk w p v bs er) :
    Calls Tryd.prog 85 #[.pointer (some ⟨p, 0, none⟩), .bool false, f] w (PutsPost w p v bs er) := by
  have hc1 := cell_of_heap hp.heap 1
  have hf := frozen_of_heap hp.heap 1
  simp at hc1
  go_enter Tryd.func85, Tryd.ntmps85
  go_wp2
  go_ret
  exact puts_same hp
end Go.Proofs.YtpniohbjgpncmaaDoor
