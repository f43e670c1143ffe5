/- chunk.Put: conditions: the children are leaves. -/
import Derived.Test.YtpniohbjgpncmaaDoorV8
import Derived.Test.YtpniohbjgpncmaaDoorS1
import Derived.Outline
namespace Go.Proofs.YtpniohbjgpncmaaDoor
open Go.RowKit

/-- A packer made since w0, beside a block of which it writes nothing. -/
structure PkX (w0 w : World) (p : Nat) (bs : List UInt8) (er : Int) (nb : Nat) (o : Obj) : Prop where
  pk : ∃ v, Pk w p v bs er ∧ (∀ k, v.ownBlock = some k → w0.heap.size ≤ k) ∧ v.ownBlock ≠ some nb
  le : w0.heap.size ≤ p
  keeps : Keeps No w0 w
  ne : p ≠ nb
  row : w.heap[nb]? = some o
theorem PkX.pkIn {w0 w : World} {p : Nat} {bs : List UInt8} {er : Int} {nb : Nat} {o : Obj} (h : PkX w0 w p bs er nb o) : PkIn w0 w p bs er := by
  obtain ⟨⟨v, h1, h2, _⟩, h3, h4, _, _⟩ := h
  exact ⟨⟨v, h1, h2⟩, h3, h4⟩
theorem PkIn.beside {w0 w W : World} {p : Nat} {bs : List UInt8} {er : Int} {o : Obj} (h : PkIn w0 w p bs er) (k : Keeps No w W) (hr : W.heap[w.heap.size]? = some o) : PkX w0 W p bs er w.heap.size o := by
  obtain ⟨⟨v, h1, h2⟩, h3, h4⟩ := h
  refine ⟨⟨v, h1.no k, h2, fun e => ?_⟩, h3, h4.same k, ?_, hr⟩
  · have := own_lt h1.own _ e; omega
  · have := heap_lt h1.heap; omega
theorem PkX.no {w0 w W : World} {p : Nat} {bs : List UInt8} {er : Int} {nb : Nat} {o : Obj} (h : PkX w0 w p bs er nb o) (k : Keeps No w W) : PkX w0 W p bs er nb o := by
  obtain ⟨⟨v, h1, h2, h5⟩, h3, h4, h6, h7⟩ := h
  exact ⟨⟨v, h1.no k, h2, h5⟩, h3, h4.same k, h6, k.heap h7 (fun h => h)⟩
def PkXPost (w0 : World) (p : Nat) (bs : List UInt8) (er : Int) (nb : Nat) (o : Obj) (e : Ending) (w' : World) : Prop := e = .returned (.pointer (some ⟨p, 0, none⟩)) ∧ PkX w0 w' p bs er nb o
theorem PkX.step {w0 w : World} {p : Nat} {bs bs' : List UInt8} {er er' : Int} {nb : Nat} {o : Obj} {F : Nat} {args : Array Value} (h : PkX w0 w p bs er nb o)
    (hc : ∀ v, Pk w p v bs er → Calls Tryd.prog F args w (PutsPost w p v bs' er')) : Calls Tryd.prog F args w (PkXPost w0 p bs' er' nb o) := by
  obtain ⟨⟨v, hp, hf, hx⟩, hle, hk, hne, hrow⟩ := h
  refine (hc v hp).mono fun e w' hx' => ?_
  obtain ⟨he, v', hp', hg⟩ := hx'
  refine ⟨he, ⟨v', hp', fun k hk' => ?_, fun e => ?_⟩, hle, hk.trans hg.keeps (fun _ _ h => h) (fun i hi hx => ?_), hne, hg.keeps.heap hrow ?_⟩
  · rcases hg.row with h | h
    · exact hf k (h ▸ hk')
    · exact Nat.le_trans hk.size (h k hk')
  · rcases hg.row with h | h
    · exact hx (h ▸ e)
    · have := h _ e
      have := heap_lt hrow
      omega
  · rcases hx with rfl | hx
    · omega
    · have := hf i hx
      omega
  · rintro (h | h)
    · exact hne h.symm
    · exact hx h
theorem pkx_put {w0 w : World} {p : Nat} {bs : List UInt8} {er : Int} {nb : Nat} {o : Obj} (width n : Nat) (hw : width = 1 ∨ width = 2 ∨ width = 4 ∨ width = 8) (hn : n < U64) (hfit : n < 2 ^ (8 * width)) (h : PkX w0 w p bs er nb o) (hlen : bs.length < 90000) :
    Calls Tryd.prog 37 #[.pointer (some ⟨p, 0, none⟩), .int .i64 width, .int .u64 n] w (PkXPost w0 p (bs ++ be width n) er nb o) := h.step fun v hp => put_yes p v bs er width n hw hn hfit w hp (by omega)
theorem pkx_put1 {w0 w : World} {p : Nat} {bs : List UInt8} {er : Int} {nb : Nat} {o : Obj} (n : Nat) (hn : n < U64) (hfit : n < 2 ^ (8 * 1)) (h : PkX w0 w p bs er nb o) (hlen : bs.length < 90000) :
    Calls Tryd.prog 37 #[.pointer (some ⟨p, 0, none⟩), .int .i64 1, .int .u64 n] w (PkXPost w0 p (bs ++ be 1 n) er nb o) := pkx_put 1 n (.inl rfl) hn hfit h hlen
theorem pkx_put4 {w0 w : World} {p : Nat} {bs : List UInt8} {er : Int} {nb : Nat} {o : Obj} (n : Nat) (hn : n < U64) (hfit : n < 2 ^ (8 * 4)) (h : PkX w0 w p bs er nb o) (hlen : bs.length < 90000) :
    Calls Tryd.prog 37 #[.pointer (some ⟨p, 0, none⟩), .int .i64 4, .int .u64 n] w (PkXPost w0 p (bs ++ be 4 n) er nb o) := pkx_put 4 n (.inr (.inr (.inl rfl))) hn hfit h hlen
theorem pkx_hash {w0 w : World} {p : Nat} {bs : List UInt8} {er : Int} {nb : Nat} {o : Obj} (l : List UInt8) (hl : l.length = 32) (h : PkX w0 w p bs er nb o) (hlen : bs.length < 90000) :
    Calls Tryd.prog 39 #[.pointer (some ⟨p, 0, none⟩), .agg (bytesV l).toArray] w (PkXPost w0 p (bs ++ l) er nb o) := h.step fun v hp => pk_hash p v bs l er hl w hp (by omega)
theorem pkx_name {w0 w : World} {p : Nat} {bs : List UInt8} {er : Int} {nb : Nat} {o : Obj} (s : ByteArray) (h : PkX w0 w p bs er nb o) (hlen : bs.length < 90000) (hs : s.size < 256) :
    Calls Tryd.prog 41 #[.pointer (some ⟨p, 0, none⟩), .string s] w (PkXPost w0 p (bs ++ (UInt8.ofNat s.size :: bl s)) er nb o) := h.step fun v hp => pk_name p v bs s er w hp hlen hs
theorem bytes_close {w w0 w6 w7 : World} {p : Nat} {bs : List UInt8} {e : Ending} (h0 : Keeps No w w0) (h5 : PkIn w0 w6 p bs 0) (hb : BytesPost bs w6 e w7) : BytesPost bs w e w7 := by
  obtain ⟨ao, cp, he, ho, hk, hf⟩ := hb
  exact ⟨ao, cp, he, ho, (h0.same h5.keeps).same hk, fun k hk' => Nat.le_trans (h0.same h5.keeps).size (hf k hk')⟩
set_option maxRecDepth 20000 in
set_option maxHeartbeats 800000 in
theorem put_blob (data : ByteArray) (w : World) (hd : data.size ≤ 240) : Calls Tryd.prog 47 #[chunkV 1 data (.slice none 0 0)] w (BytesPost (1 :: bl data) w) := by
  have u1 : 1 < U64 := by decide
  have f1 : 1 < 2 ^ (8 * 1) := by decide
  have l1 : ([] ++ be 1 1).length < 90000 := by decide
  have hE : [] ++ be 1 1 ++ bl data = 1 :: bl data := rfl
  have hs9 : data.size < 900000 := by omega
  have hl3 : (1 :: bl data).length < 1000000 := by rw [List.length_cons, bl_length]; omega
  obtain ⟨B, hB⟩ : ∃ B, B = 1 :: bl data := ⟨_, rfl⟩
  rw [← hB] at hE hl3 ⊢
  have HE := Lib.hid hE; clear hE
  have HL3 := Lib.hid hl3; clear hl3
  have HB := Lib.hid hB; clear hB
  have U1 := Lib.hid u1; clear u1
  have F1 := Lib.hid f1; clear f1
  have L1 := Lib.hid l1; clear l1
  unfold chunkV
  go_enter Tryd.func47, Tryd.ntmps47
  go_wp2_with (first | (go_at_call 92; refine (may_blob data _ hd).mono ?_; rintro e w1 ⟨rfl, hk1⟩))
  have hb1 := hk1.heap (heap_alloc_new w _) (fun h => h)
  have hkw1 : Keeps No w w1 := (keeps_alloc w _).same hk1
  obtain ⟨g, hg⟩ : ∃ g, g = w.heap.size := ⟨_, rfl⟩
  rw [← hg] at hb1 ⊢
  have e0 := cell_of_heap hb1 0
  have e1 := cell_of_heap hb1 1
  have e2 := cell_of_heap hb1 2
  simp at e0 e1 e2
  clear hk1 hg
  have HB1 := Lib.hid hb1; clear hb1
  have hnk : Keeps No w1 w1.drew := (Keeps.refl _ w1).drew
  go_region_held3 (fun w' => w'.cell? ⟨g, 0, none⟩ = some (.int .u8 1) ∧ w'.cell? ⟨g, 1, none⟩ = some (.string data)) (first | exact ⟨e0, e1⟩ | exact ⟨hq.keeps.cell e0 (fun h => h), hq.keeps.cell e1 (fun h => h)⟩ | go_keep)
    (first | (go_at_call 35; refine (new_any _).mono ?_; rintro e w2 ⟨rfl, rfl⟩; have hq : PkIn w1 _ w1.heap.size [] 0 := PkIn.new w1 w1.drew hnk) | (go_at_call 37; refine (pkin_put1 1 U1.out F1.out hq (by decide)).mono ?_; clear hq; rintro e w2 ⟨rfl, hq⟩) | (go_at_call 40; refine (pkin_text data hq L1.out hs9).mono ?_; clear hq; rintro e w2 ⟨rfl, hq⟩; rw [HE.out] at hq))
  have hb2 := hq.keeps.heap HB1.out (fun h => h)
  have f0 := cell_of_heap hb2 0
  have f2 := cell_of_heap hb2 2
  simp at f0 f2
  have HQ := Lib.hid hq; clear hq
  clear e0 e1 e2 hb2
  go_wp2
  refine wp_loop_rounds 1 ?_
  rw [rounds_succ]
  go_wp2_with (first | (go_at_call 42; refine (pkin_bytes HQ.out HL3.out).mono ?_; rintro e w4 ⟨⟨ao, cp, rfl, ho4, hk4, hf4⟩, hq4⟩))
  go_ret2
  exact bytes_close hkw1 HQ.out ⟨ao, cp, rfl, ho4, hk4, hf4⟩
end Go.Proofs.YtpniohbjgpncmaaDoor
