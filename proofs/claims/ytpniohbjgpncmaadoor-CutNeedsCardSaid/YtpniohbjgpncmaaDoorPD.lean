import Derived.Test.YtpniohbjgpncmaaDoorC1
import Derived.Test.YtpniohbjgpncmaaDoorShelf
namespace Go.Proofs.YtpniohbjgpncmaaDoor
open Go.RowKit

/-- a packer that was made since the world w0 -/
structure PkIn (w0 w : World) (p : Nat) (bs : List UInt8) (er : Int) : Prop where
  pk : ∃ v, Pk w p v bs er ∧ ∀ k, v.ownBlock = some k → w0.heap.size ≤ k
  le : w0.heap.size ≤ p
  keeps : Keeps No w0 w

theorem PkIn.new (w0 w : World) (k : Keeps No w0 w) : PkIn w0 (w.alloc (.cells #[.slice none 0 0, .int .i64 0] 162)) w.heap.size [] 0 :=
  ⟨⟨.slice none 0 0, ⟨heap_alloc_new _ _, World.ownsRow_nil _ _ _ _, by simp [Value.ownBlock]⟩, fun k h => by simp [Value.ownBlock] at h⟩, k.size, k.alloc _⟩

def PkPost (w0 : World) (p : Nat) (bs : List UInt8) (er : Int) (e : Ending) (w' : World) : Prop := e = .returned (.pointer (some ⟨p, 0, none⟩)) ∧ PkIn w0 w' p bs er

theorem PkIn.step {w0 w : World} {p : Nat} {bs bs' : List UInt8} {er er' : Int} {F : Nat} {args : Array Value} (h : PkIn w0 w p bs er)
    (hc : ∀ v, Pk w p v bs er → Calls Tryd.prog F args w (PutsPost w p v bs' er')) : Calls Tryd.prog F args w (PkPost w0 p bs' er') := by
  obtain ⟨⟨v, hp, hf⟩, hle, hk⟩ := h
  refine (hc v hp).mono fun e w' hx => ?_
  obtain ⟨he, v', hp', hg⟩ := hx
  refine ⟨he, ⟨v', hp', fun k hk' => ?_⟩, hle, hk.trans hg.keeps (fun _ _ h => h) (fun i hi hx => ?_)⟩
  · rcases hg.row with h | h
    · exact hf k (h ▸ hk')
    · exact Nat.le_trans hk.size (h k hk')
  · rcases hx with rfl | hx
    · omega
    · have := hf i hx
      omega

theorem pkin_text {w0 w : World} {p : Nat} {bs : List UInt8} {er : Int} (s : ByteArray) (h : PkIn w0 w p bs er) (hlen : bs.length < 90000) (hs : s.size < 900000) :
    Calls Tryd.prog 40 #[.pointer (some ⟨p, 0, none⟩), .string s] w (PkPost w0 p (bs ++ bl s) er) := h.step fun v hp => pk_text p v bs s er w hp hlen hs
theorem pkin_put {w0 w : World} {p : Nat} {bs : List UInt8} {er : Int} (width n : Nat) (hw : width = 1 ∨ width = 2 ∨ width = 4 ∨ width = 8) (hn : n < U64) (hfit : n < 2 ^ (8 * width)) (h : PkIn w0 w p bs er) (hlen : bs.length < 90000) :
    Calls Tryd.prog 37 #[.pointer (some ⟨p, 0, none⟩), .int .i64 width, .int .u64 n] w (PkPost w0 p (bs ++ be width n) er) := h.step fun v hp => put_yes p v bs er width n hw hn hfit w hp (by omega)
theorem pkin_put1 {w0 w : World} {p : Nat} {bs : List UInt8} {er : Int} (n : Nat) (hn : n < U64) (hfit : n < 2 ^ (8 * 1)) (h : PkIn w0 w p bs er) (hlen : bs.length < 90000) :
    Calls Tryd.prog 37 #[.pointer (some ⟨p, 0, none⟩), .int .i64 1, .int .u64 n] w (PkPost w0 p (bs ++ be 1 n) er) := pkin_put 1 n (.inl rfl) hn hfit h hlen
theorem pkin_put2 {w0 w : World} {p : Nat} {bs : List UInt8} {er : Int} (n : Nat) (hn : n < U64) (hfit : n < 2 ^ (8 * 2)) (h : PkIn w0 w p bs er) (hlen : bs.length < 90000) :
    Calls Tryd.prog 37 #[.pointer (some ⟨p, 0, none⟩), .int .i64 2, .int .u64 n] w (PkPost w0 p (bs ++ be 2 n) er) := pkin_put 2 n (.inr (.inl rfl)) hn hfit h hlen
theorem pkin_put4 {w0 w : World} {p : Nat} {bs : List UInt8} {er : Int} (n : Nat) (hn : n < U64) (hfit : n < 2 ^ (8 * 4)) (h : PkIn w0 w p bs er) (hlen : bs.length < 90000) :
    Calls Tryd.prog 37 #[.pointer (some ⟨p, 0, none⟩), .int .i64 4, .int .u64 n] w (PkPost w0 p (bs ++ be 4 n) er) := pkin_put 4 n (.inr (.inr (.inl rfl))) hn hfit h hlen
theorem pkin_put8 {w0 w : World} {p : Nat} {bs : List UInt8} {er : Int} (n : Nat) (hn : n < U64) (hfit : n < 2 ^ (8 * 8)) (h : PkIn w0 w p bs er) (hlen : bs.length < 90000) :
    Calls Tryd.prog 37 #[.pointer (some ⟨p, 0, none⟩), .int .i64 8, .int .u64 n] w (PkPost w0 p (bs ++ be 8 n) er) := pkin_put 8 n (.inr (.inr (.inr rfl))) hn hfit h hlen
theorem pkin_hash {w0 w : World} {p : Nat} {bs : List UInt8} {er : Int} (l : List UInt8) (hl : l.length = 32) (h : PkIn w0 w p bs er) (hlen : bs.length < 90000) :
    Calls Tryd.prog 39 #[.pointer (some ⟨p, 0, none⟩), .agg (bytesV l).toArray] w (PkPost w0 p (bs ++ l) er) := h.step fun v hp => pk_hash p v bs l er hl w hp (by omega)
theorem pkin_name {w0 w : World} {p : Nat} {bs : List UInt8} {er : Int} (s : ByteArray) (h : PkIn w0 w p bs er) (hlen : bs.length < 90000) (hs : s.size < 256) :
    Calls Tryd.prog 41 #[.pointer (some ⟨p, 0, none⟩), .string s] w (PkPost w0 p (bs ++ (UInt8.ofNat s.size :: bl s)) er) := h.step fun v hp => pk_name p v bs s er w hp hlen hs

/-- what Bytes hands back, said of a world w0 before -/
theorem pkin_bytes {w0 w : World} {p : Nat} {bs : List UInt8} (h : PkIn w0 w p bs 0) (hlen : bs.length < 1000000) :
    Calls Tryd.prog 42 #[.pointer (some ⟨p, 0, none⟩)] w fun e w' => BytesPost bs w e w' ∧ PkIn w0 w' p bs 0 := by
  obtain ⟨⟨v, hp, hf⟩, hle, hk⟩ := h
  refine (pk_bytes p v bs w hp hlen).mono fun e w' hx => ⟨hx, ?_⟩
  obtain ⟨ao, cp, _, _, hk', _⟩ := hx
  exact ⟨⟨v, hp.no hk', hf⟩, hle, hk.same hk'⟩

theorem PkIn.no {w0 w w' : World} {p : Nat} {bs : List UInt8} {er : Int} (h : PkIn w0 w p bs er) (k : Keeps No w w') : PkIn w0 w' p bs er := by
  obtain ⟨⟨v, hp, hf⟩, hle, hk⟩ := h
  exact ⟨⟨v, hp.no k, hf⟩, hle, hk.same k⟩
def zs496 : ByteArray := ⟨(Lib.repeatL (⟨#[0]⟩ : ByteArray).data.toList 496).toArray⟩
theorem rep_any (w : World) : Calls Tryd.prog 77 #[.string ⟨#[0]⟩, .int .i64 496] w fun e w' => e = .returned (.string zs496) ∧ Keeps No w w' :=
  (Tryd.strings_Repeat ⟨#[0]⟩ 496 w (by decide) (by decide)).mono fun _ _ ⟨h1, h2⟩ => ⟨h1, Keeps.of_below h2 _⟩
theorem zs496_bl : bl zs496 = List.replicate 496 0 := by decide +kernel
theorem zs496_size : zs496.size = 496 := by rw [← bl_length, zs496_bl, List.length_replicate]
def headTop (box used sum : Nat) : List UInt8 := [66, 79, 88, 49] ++ be 2 box ++ be 2 used ++ be 4 sum

def headBody (box used sum : Nat) : List UInt8 := headTop box used sum ++ List.replicate 496 0
def headBytes (box used sum : Nat) : List UInt8 := headBody box used sum ++ be 4 (crcOf (headBody box used sum))
theorem Halves.keeps {w w' : World} (h : Halves w) (k : Keeps No w w') : Halves w' := fun i hi => k.cell (h i hi) (fun h => h)
theorem headTop_length (box used sum : Nat) : (headTop box used sum).length = 12 := by simp [headTop, be_length]
theorem headBody_length (box used sum : Nat) : (headBody box used sum).length = 508 := by unfold headBody; rw [List.length_append, headTop_length, List.length_replicate]
theorem headBytes_length (box used sum : Nat) : (headBytes box used sum).length = 512 := by unfold headBytes; rw [List.length_append, headBody_length, be_length]
theorem headBody_eq (box used sum : Nat) : headTop box used sum ++ bl zs496 = headBody box used sum := by rw [zs496_bl]; rfl
theorem head_close {w w0 w5 w6 : World} {p : Nat} {bs : List UInt8} {o : Obj} {ao : Option Addr} {cp : Nat} (hw : w0 = w.alloc o) (h5 : PkIn w0 w5 p bs 0) (ho : w6.ownsRow 0 5 1 (.slice ao bs.length cp) bs.length (bytesV bs)) (hk : Keeps No w5 w6) (hf : ∀ k, (Value.slice ao bs.length cp).ownBlock = some k → w5.heap.size ≤ k) :
    ClonePost bs w (.returned (.slice ao bs.length cp)) w6 := by
  have h0 : Keeps No w w5 := by subst hw; exact (keeps_alloc w o).same h5.keeps
  exact ⟨ao, cp, rfl, ho, h0.same hk, fun k hk' => Nat.le_trans h0.size (hf k hk')⟩
set_option maxRecDepth 20000 in
set_option maxHeartbeats 800000 in
theorem head_put (box used sum : Nat) (hb : box < 65536) (hu : used < 65536) (hs : sum < 4294967296) (w : World) (ht : Halves w) :
    Calls Tryd.prog 27 #[.agg #[.int .i64 box, .int .i64 used, .int .u32 sum]] w (ClonePost (headBytes box used sum) w) := by
  have hq0 : (0 : Int) ≤ box := by omega
  have hq1 : (box : Int) < 65536 := by omega
  have hu1 : (used : Int) < 65536 := by omega
  have hs1 : (sum : Int) < 4294967296 := by omega
  have HT := Lib.hid ht; clear ht
  have u1 : box < U64 := by unfold U64; omega
  have u2 : used < U64 := by unfold U64; omega
  have u3 : sum < U64 := by unfold U64; omega
  have f1 : box < 2 ^ (8 * 2) := by omega
  have f2 : used < 2 ^ (8 * 2) := by omega
  have f3 : sum < 2 ^ (8 * 4) := by omega
  have U1 := Lib.hid u1; clear u1
  have U2 := Lib.hid u2; clear u2
  have U3 := Lib.hid u3; clear u3
  have F1 := Lib.hid f1; clear f1
  have F2 := Lib.hid f2; clear f2
  have F3 := Lib.hid f3; clear f3
  have l1 : ([] ++ bl ⟨#[66, 79, 88, 49]⟩).length < 90000 := by decide
  have l2 : ([] ++ bl ⟨#[66, 79, 88, 49]⟩ ++ be 2 box).length < 90000 := by rw [List.length_append, be_length]; decide
  have l3 : ([] ++ bl ⟨#[66, 79, 88, 49]⟩ ++ be 2 box ++ be 2 used).length < 90000 := by rw [List.length_append, List.length_append, be_length, be_length]; decide
  have L1 := Lib.hid l1; clear l1
  have L2 := Lib.hid l2; clear l2
  have L3 := Lib.hid l3; clear l3
  have w1 : IntKind.u64.wrap (box : Int) = box := by rw [IntKind.wrap_u64]; omega
  have w2 : IntKind.u64.wrap (used : Int) = used := by rw [IntKind.wrap_u64]; omega
  have w3 : IntKind.u64.wrap (sum : Int) = sum := by rw [IntKind.wrap_u64]; omega
  go_enter Tryd.func27, Tryd.ntmps27
  go_wp2_with fail
  obtain ⟨w0, hw0⟩ : ∃ w0, w0 = w.alloc (.cells #[.int .i64 box, .int .i64 used, .int .u32 sum] 36) := ⟨_, rfl⟩
  have hheap : w0.heap[w.heap.size]? = some (.cells #[.int .i64 box, .int .i64 used, .int .u32 sum] 36) := by rw [hw0]; exact heap_alloc_new _ _
  have hc0 := cell_of_heap hheap 0
  have hc1 := cell_of_heap hheap 1
  have hc2 := cell_of_heap hheap 2
  simp at hc0 hc1 hc2
  rw [← hw0]
  have HW := Lib.hid hw0; clear hw0
  have HH := Lib.hid hheap; clear hheap
  have hnk : Keeps No w0 w0.drew := (Keeps.refl _ w0).drew
  go_region_held3 (fun w' => w'.cell? ⟨w.heap.size, 0, none⟩ = some (.int .i64 box) ∧ w'.cell? ⟨w.heap.size, 1, none⟩ = some (.int .i64 used) ∧ w'.cell? ⟨w.heap.size, 2, none⟩ = some (.int .u32 sum)) (first | go_keep | exact ⟨hq.keeps.cell hc0 (fun h => h), hq.keeps.cell hc1 (fun h => h), hq.keeps.cell hc2 (fun h => h)⟩)
    (first | (go_at_call 35; refine (new_any _).mono ?_; rintro e w1 ⟨rfl, rfl⟩; have hq : PkIn w0 _ w0.heap.size [] 0 := PkIn.new w0 w0.drew hnk) | (go_at_call 40; refine (pkin_text ⟨#[66, 79, 88, 49]⟩ hq (by decide) (by decide)).mono ?_; clear hq; rintro e w1 ⟨rfl, hq⟩) | (go_at_call 37; (with_reducible refine (pkin_put2 box U1.out F1.out hq L1.out).mono ?_); clear hq; rintro e w1 ⟨rfl, hq⟩) | (go_at_call 37; (with_reducible refine (pkin_put2 used U2.out F2.out hq L2.out).mono ?_); clear hq; rintro e w1 ⟨rfl, hq⟩) | (go_at_call 37; (with_reducible refine (pkin_put4 sum U3.out F3.out hq L3.out).mono ?_); clear hq; rintro e w1 ⟨rfl, hq⟩))
  have HQ : Hid (PkIn w0 _ w0.heap.size (headTop box used sum) 0) := hq
  clear hq
  obtain ⟨C, hC⟩ : ∃ C, C = crcOf (headBody box used sum) := ⟨_, rfl⟩
  have hCl : C < 4294967296 := by rw [hC]; exact crcOf_lt _
  have hCu : C < U64 := by unfold U64; omega
  have hCf : C < 2 ^ (8 * 4) := by omega
  have hE : headBytes box used sum = headBody box used sum ++ be 4 C := by rw [hC]; rfl
  have w4 : IntKind.u64.wrap (C : Int) = C := by rw [IntKind.wrap_u64]; omega
  obtain ⟨B, hB⟩ : ∃ B, B = headBody box used sum := ⟨_, rfl⟩
  obtain ⟨D, hD⟩ : ∃ D, D = headBytes box used sum := ⟨_, rfl⟩
  have hBl : B.length < 1000000 := by rw [hB, headBody_length]; decide
  have hBl2 : B.length < 90000 := by rw [hB, headBody_length]; decide
  have hDl : D.length < 1000000 := by rw [hD, headBytes_length]; decide
  rw [← hB] at hC hE
  rw [← hD] at hE ⊢
  have HC := Lib.hid hC; clear hC
  have HE := Lib.hid hE; clear hE
  have HB := Lib.hid hB; clear hB
  have HD := Lib.hid hD; clear hD
  have HCU := Lib.hid hCu; clear hCu
  have HCF := Lib.hid hCf; clear hCf
  go_wp2_with (first | (go_at_call 77; refine (rep_any _).mono ?_; rintro e w2 ⟨rfl, hk2⟩) | (go_at_call 40; refine (pkin_text zs496 (HQ.out.no hk2) (by rw [headTop_length]; decide) (by rw [zs496_size]; decide)).mono ?_; rintro e w3 ⟨rfl, hq3⟩; rw [headBody_eq, ← HB.out] at hq3) | (go_at_call 42; (with_reducible refine (pkin_bytes hq3 hBl).mono ?_); rintro e w4 ⟨⟨ao, cp, rfl, ho4, hk4, hf4⟩, hq4⟩; clear hq3) | (go_at_call 26; refine (crc_any _ B _ (Own.rd ho4) hBl (HT.out.keeps (by have h := hq4.keeps; rw [HW.out] at h; exact (keeps_alloc w _).same h))).mono ?_; rintro e w5 ⟨rfl, rfl⟩; rw [← HC.out]) | (go_at_call 37; (with_reducible refine (pkin_put4 C HCU.out HCF.out hq4 hBl2).mono ?_); clear hq4; rintro e w6 ⟨rfl, hq6⟩; rw [← HE.out] at hq6) | (go_at_call 42; (with_reducible refine (pkin_bytes hq6 hDl).mono ?_); rintro e w7 ⟨⟨ao7, cp7, rfl, ho7, hk7, hf7⟩, hq7⟩))
  go_ret
  rw [← HD.out]
  exact head_close HW.out hq6 ho7 hk7 hf7
end Go.Proofs.YtpniohbjgpncmaaDoor
