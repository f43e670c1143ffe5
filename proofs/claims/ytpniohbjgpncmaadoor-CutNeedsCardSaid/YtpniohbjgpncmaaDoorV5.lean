/- chunk: how high and how great one is: conditions: the children are as low as can be. -/
import Derived.Test.YtpniohbjgpncmaaDoorV4
import Derived.Outline
namespace Go.Proofs.YtpniohbjgpncmaaDoor
open Go.RowKit

structure KidD where
  name : ByteArray
  dir : Bool
  hash : List UInt8
  height : Nat
  size : Nat
def kidV (k : KidD) : List Value := [.string k.name, .bool k.dir] ++ bytesV k.hash ++ [.int .u8 k.height, .int .u32 k.size]
def chunkV (kind : Nat) (data : ByteArray) (kids : Value) : Value := .agg #[.int .u8 kind, .string data, kids]
/-- Children that are leaves. -/
structure Leaf (k : KidD) : Prop where
  hash : k.hash.length = 32
  low : k.height = 0
  small : k.size < 1000000
theorem kidV_length (k : KidD) (h : k.hash.length = 32) : (kidV k).length = 36 := by simp [kidV, bytesV_length, h]
theorem kidV_one (k : KidD) : ∀ u ∈ kidV k, u.oneCell' = true := by
  intro u hu
  simp only [kidV, List.mem_append, List.mem_cons, List.not_mem_nil, or_false] at hu
  rcases hu with ((rfl | rfl) | hu) | (rfl | rfl)
  · rfl
  · rfl
  · exact bytesV_one _ u hu
  · rfl
  · rfl
theorem flat_get {α β : Type} (f : α → List β) (s : Nat) : ∀ (l : List α) (i j : Nat), (∀ x ∈ l, (f x).length = s) → (hi : i < l.length) → j < s → (l.flatMap f)[i * s + j]? = (f l[i])[j]?
  | x :: l, 0, j, h, _, hj => by
    rw [List.flatMap_cons, Nat.zero_mul, Nat.zero_add, List.getElem?_append_left (by rw [h x (by simp)]; exact hj)]
    rfl
  | x :: l, i + 1, j, h, hi, hj => by
    have hx := h x (by simp)
    rw [List.flatMap_cons, List.getElem?_append_right (by rw [hx, Nat.add_mul]; omega), hx, show (i + 1) * s + j - s = i * s + j by rw [Nat.add_mul]; omega]
    exact flat_get f s l i j (fun y hy => h y (by simp [hy])) (by simpa using hi) hj
/-- A slice of children. -/
def Kids (w : World) (v : Value) (ks : List KidD) : Prop := Rd w 36 v ks.length (ks.flatMap kidV)
theorem Kids.keeps {S : Nat → Prop} {w w' : World} {v : Value} {ks : List KidD} (h : Kids w v ks) (k : Keeps S w w') (hn : ∀ b, v.ownBlock = some b → ¬ S b) : Kids w' v ks := Rd.keeps h k hn
theorem Kids.at {w : World} {a : Option Addr} {n c : Nat} {ks : List KidD} (h : Kids w (.slice a n c) ks) (hl : ∀ k ∈ ks, k.hash.length = 32) (i : Nat) (hi : i < ks.length) :
    ∃ b o, a = some ⟨b, o, none⟩ ∧ w.rangeAt b (o + i * 36) (kidV ks[i]) := by
  obtain ⟨h1, a', c', he, hc, h2, h3⟩ := h
  cases he
  cases a with
  | none => have := (h2 rfl).1; omega
  | some ad =>
    obtain ⟨b, o, sp⟩ := ad
    obtain ⟨hsp, h5⟩ := h3 _ rfl
    simp at hsp
    subst hsp
    refine ⟨b, o, rfl, fun j v hj => ?_⟩
    have hj36 : j < 36 := by
      have := (List.getElem?_eq_some_iff.1 hj).1
      rwa [kidV_length _ (hl _ (List.getElem_mem hi))] at this
    have := h5 (i * 36 + j) v (by rw [flat_get kidV 36 ks i j (fun x hx => kidV_length x (hl x hx)) hi hj36]; exact hj)
    rw [addr_add] at this
    rwa [Nat.add_assoc]
theorem Kids.len {w : World} {v : Value} {ks : List KidD} (h : Kids w v ks) : ∃ a c, v = .slice a ks.length c ∧ ks.length ≤ c := by
  obtain ⟨h1, a', c', he, hc, h2, h3⟩ := h
  exact ⟨a', c', he, hc⟩
theorem Tryd.size146 : (Tryd.prog.info? 146).map (·.size) = some 36 := by kernel_rfl

theorem newrow {wr W : World} {O X : Array Value} {t : TypeId} (h : (wr.alloc (.cells O t)).setRow wr.heap.size X = W) : W.heap[wr.heap.size]? = some (.cells X t) ∧ Keeps No wr W := by
  subst h
  exact ⟨setRow_heap _ _ _ _ _ _ (heap_alloc_new _ _), (keeps_alloc _ _).setRow _ _ (fun h => by omega)⟩
theorem cell_at {w : World} {b k : Nat} {l : List Value} {t : TypeId} {v : Value} (h : w.heap[b]? = some (.cells l.toArray t)) (hk : l[k]? = some v) : w.cell? ⟨b, k, none⟩ = some v := by
  rw [cell_of_heap h k]; simpa using hk
theorem see_any (h n g : Nat) (w : World) (hg : w.heap[g]? = some (.cells #[.int .i64 n] 3)) (hh : h ≤ n) : Calls Tryd.prog 93 #[.int .i64 h, .pointer (some ⟨g, 0, none⟩)] w fun e w' => e = .returned (.tuple #[]) ∧ w'.heap[g]? = some (.cells #[.int .i64 n] 3) ∧ Keeps (fun k => k = g) w w' := by
  have hc := cell_of_heap hg 0
  have hf := frozen_of_heap hg 0
  simp at hc
  have hm : max (n : Int) (h : Int) = n := by omega
  have HG := Lib.hid hg; clear hg
  go_enter Tryd.func93, Tryd.ntmps93
  go_wp2
  go_end0
  exact ⟨rfl, by rw [heap_setCell_same _ HG.out]; rfl, (Keeps.refl _ _).setCell _ _ (fun _ => rfl)⟩
theorem see_first (g : Nat) (w : World) (hg : w.heap[g]? = some (.cells #[.int .i64 0] 3)) : Calls Tryd.prog 93 #[.int .i64 1, .pointer (some ⟨g, 0, none⟩)] w fun e w' => e = .returned (.tuple #[]) ∧ w'.heap[g]? = some (.cells #[.int .i64 1] 3) ∧ Keeps (fun k => k = g) w w' := by
  have hc := cell_of_heap hg 0
  have hf := frozen_of_heap hg 0
  simp at hc
  have HG := Lib.hid hg; clear hg
  go_enter Tryd.func93, Tryd.ntmps93
  go_wp2
  go_end0
  exact ⟨rfl, by rw [heap_setCell_same _ HG.out]; rfl, (Keeps.refl _ _).setCell _ _ (fun _ => rfl)⟩
set_option maxRecDepth 20000 in
theorem height_blob (data : ByteArray) (kids : Value) (w : World) : Calls Tryd.prog 49 #[chunkV 1 data kids] w fun e w' => e = .returned (.int .i64 0) ∧ Keeps No w w' := by
  unfold chunkV
  go_enter Tryd.func49, Tryd.ntmps49
  go_wp2
  go_ret
  exact ⟨rfl, keeps_alloc2 _ _ _⟩

set_option maxRecDepth 20000 in
set_option maxHeartbeats 800000 in
theorem height_node (kind : Nat) (hkind : kind = 2 ∨ kind = 3) (data : ByteArray) (v : Value) (ks : List KidD) (w : World) (hv : Kids w v ks) (hl : ∀ k ∈ ks, Leaf k) (hn : ks.length ≤ 6) :
    Calls Tryd.prog 49 #[chunkV kind data v] w fun e w' => e = .returned (.int .i64 1) ∧ Keeps No w w' := by
  obtain ⟨a, c, rfl, hc⟩ := hv.len
  have HV := Lib.hid hv; clear hv
  have HL := Lib.hid hl; clear hl
  unfold chunkV
  rcases hkind with rfl | rfl
  all_goals
    go_enter Tryd.func49, Tryd.ntmps49
    go_wp2_with (first | (go_at_call 93; refine (see_first (w.heap.size + 1) _ (heap_new2 _ _ _)).mono ?_; rintro e w1 ⟨rfl, hg1, hk1⟩; have hb1 := hk1.heap (heap_new1 w _ _ _ rfl) (by omega); have e0 := cell_of_heap hb1 0; have e2 := cell_of_heap hb1 2; simp at e0 e2))
    have hkw1 : Keeps No w w1 := (keeps_alloc2 w _ _).trans hk1 (fun _ _ h => h) (fun i hi h => by omega)
    have hkd1 := HV.out.keeps hkw1 (fun _ _ h => h)
    obtain ⟨g, hg⟩ : ∃ g, g = w.heap.size + 1 := ⟨_, rfl⟩
    have hgw : w.heap.size ≤ g := by omega
    rw [← hg] at hg1 ⊢
    clear hb1 e0 e2 hk1 hg
    go_loopw [21] (fun i W => ∃ k : Nat, k ≤ ks.length ∧ i = .int .i64 k ∧ W.heap[g]? = some (.cells #[.int .i64 1] 3) ∧ Keeps No w W) (fun i _ => ks.length - (intOf i).toNat)
    case atStart => exact ⟨0, Nat.zero_le _, rfl, hg1, hkw1⟩
    case round =>
      clear hg1 hkw1 hkd1
      obtain ⟨k, hk, rfl, hg, hkw⟩ := hrel
      by_cases hlt : k < ks.length
      · obtain ⟨b, o, rfl, hra⟩ := (HV.out.keeps hkw (fun _ _ h => h)).at (fun k hk => (HL.out k hk).hash) k hlt
        have hlf := HL.out _ (List.getElem_mem hlt)
        obtain ⟨K, hK⟩ : ∃ K, K = ks[k] := ⟨_, rfl⟩
        rw [← hK] at hra hlf
        have hz : (Tryd.prog.info? 146).map (·.size) = some (kidV K).length := by rw [kidV_length _ hlf.hash]; exact Tryd.size146
        have hz2 : (Tryd.prog.info? 146).map (·.size) = some (kidV K).toArray.size := by simpa using hz
        have ho2 : (kidV K).toArray.all (·.oneCell') = true := all_oneCell_toArray (kidV_one _)
        have h36 : 36 = (kidV K).toArray.size := by simp [kidV_length _ hlf.hash]
        have h34 : (kidV K)[34]? = some (.int .u8 0) := by
          simp [kidV, bytesV_length, hlf.hash, hlf.low]
        obtain ⟨KV, hKV⟩ : ∃ KV, KV = kidV K := ⟨_, rfl⟩
        rw [← hKV] at hra hz hz2 ho2 h36 h34
        have HRA := Lib.hid hra; clear hra
        have HZ := Lib.hid hz; clear hz
        have HZ2 := Lib.hid hz2; clear hz2
        have HO2 := Lib.hid ho2; clear ho2
        have H36 := Lib.hid h36; clear h36
        have H34 := Lib.hid h34; clear h34
        have HG := Lib.hid hg; clear hg
        clear hKV hK hlf
        go_wp2_with (first | (refine wpList_load_mid rfl 146 _ rfl b (o + k * 36) (by rfl) KV _ HRA.out Tryd.underlying146 rfl HZ.out ?_) | (refine wpList_store_row rfl 146 _ _ rfl wr.heap.size KV.toArray (by rfl) (by rfl) 146 _ (heap_alloc_new _ _) HZ2.out H36.out HO2.out ?_; generalize hW3 : World.setRow _ _ _ = W3; obtain ⟨hb3, hk3⟩ := newrow hW3; clear hW3; have e34 := cell_at hb3 H34.out; have hg3 := hk3.heap HG.out (fun h => h)) | (go_at_call 93; refine (see_any 1 1 g _ hg3 (Nat.le_refl _)).mono ?_; rintro e w5 ⟨rfl, hg5, hk5⟩))
        have hkw5 : Keeps No w w5 := (hkw.same hk3).trans hk5 (fun _ _ h => h) (fun i hi h => by omega)
        go_roundw
        case rel => exact ⟨k + 1, by omega, by go_num, hg5, hkw5⟩
        case measure => simp [intOf]; omega
      · have hge : ¬ (k : Int) < ks.length := by omega
        have e1 := cell_of_heap hg 0
        simp at e1
        go_wp2
        go_ret
        exact ⟨rfl, hkw⟩
end Go.Proofs.YtpniohbjgpncmaaDoor
