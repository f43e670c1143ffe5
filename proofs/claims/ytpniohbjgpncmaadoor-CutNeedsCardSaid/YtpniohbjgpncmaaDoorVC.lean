/- chunk.Put of a directory: conditions: the children are files, and their names are in order. -/
import Derived.Test.YtpniohbjgpncmaaDoorVB
namespace Go.Proofs.YtpniohbjgpncmaaDoor
open Go.RowKit

/-- A child of a directory that is a file. -/
structure FileK (k : KidD) : Prop where
  leaf : Leaf k
  dir : k.dir = false
  name : k.name.size ≤ 16
def encN (s : ByteArray) : List UInt8 := UInt8.ofNat s.size :: bl s
theorem pkx_encN {w0 w : World} {p : Nat} {bs : List UInt8} {er : Int} {nb : Nat} {o : Obj} (s : ByteArray) (h : PkX w0 w p bs er nb o) (hlen : bs.length < 90000) (hs : s.size < 256) :
    Calls Tryd.prog 41 #[.pointer (some ⟨p, 0, none⟩), .string s] w (PkXPost w0 p (bs ++ encN s) er nb o) := pkx_name s h hlen hs
def encD (k : KidD) : List UInt8 := be 1 0 ++ encN k.name ++ k.hash ++ be 1 k.height ++ be 4 k.size
theorem encN_length (s : ByteArray) : (encN s).length = 1 + s.size := by simp [encN, bl_length]; omega
theorem encD_length (k : KidD) (h : k.hash.length = 32) : (encD k).length = 39 + k.name.size := by simp [encD, be_length, h, encN_length]; omega
set_option maxRecDepth 20000 in
set_option maxHeartbeats 1600000 in
theorem put_dir (v : Value) (ks : List KidD) (w : World) (hv : Kids w v ks) (hl : ∀ k ∈ ks, FileK k) (hn : ks.length ≤ 6) (hnm : Names ks) :
    Calls Tryd.prog 47 #[chunkV 3 ⟨#[]⟩ v] w (BytesPost (putTo [3, UInt8.ofNat ks.length] encD ks ks.length) w) := by
  obtain ⟨a, c, rfl, hc⟩ := hv.len
  have hmay := fun W (h : Keeps No w W) => may_dir (.slice a ks.length c) ks W (hv.keeps h (fun _ _ h => h)) (fun k hk => (hl k hk).leaf) hn hnm
  have HMAY := Lib.hid hmay; clear hmay
  have HV := Lib.hid hv; clear hv
  have HL := Lib.hid hl; clear hl
  have hle := putTo_le [3, UInt8.ofNat ks.length] encD ks (by simp) (fun k hk => by rw [encD_length k (HL.out k hk).leaf.hash]; have := (HL.out k hk).name; omega)
  have HLE := Lib.hid hle; clear hle
  have u1 : 3 < U64 := by decide
  have f1 : 3 < 2 ^ (8 * 1) := by decide
  have u2 : ks.length < U64 := by unfold U64; omega
  have f2 : ks.length < 2 ^ (8 * 1) := by omega
  have l0 : ([] ++ be 1 3).length < 90000 := by decide
  have l1 : ([] ++ be 1 3 ++ bl ⟨#[]⟩).length < 90000 := by decide
  have hE : [] ++ be 1 3 ++ bl ⟨#[]⟩ ++ be 1 ks.length = putTo [3, UInt8.ofNat ks.length] encD ks 0 := by
    rw [putTo_zero]
    simp [be, beTo, bl]
  have w1 : IntKind.u64.wrap (ks.length : Int) = ks.length := by rw [IntKind.wrap_u64]; omega
  have HE := Lib.hid hE; clear hE
  have U1 := Lib.hid u1; clear u1
  have F1 := Lib.hid f1; clear f1
  have U2 := Lib.hid u2; clear u2
  have F2 := Lib.hid f2; clear f2
  have L0 := Lib.hid l0; clear l0
  have L1 := Lib.hid l1; clear l1
  have HN := Lib.hid hn; clear hn
  unfold chunkV
  go_enter Tryd.func47, Tryd.ntmps47
  go_wp2_with (first | (go_at_call 92; refine (HMAY.out _ (keeps_alloc _ _)).mono ?_; rintro e w1 ⟨rfl, hk1⟩))
  have hb1 := hk1.heap (heap_alloc_new w _) (fun h => h)
  have hkw1 : Keeps No w w1 := (keeps_alloc w _).same hk1
  obtain ⟨g, hg⟩ : ∃ g, g = w.heap.size := ⟨_, rfl⟩
  rw [← hg] at hb1 ⊢
  have e0 := cell_of_heap hb1 0
  have e1 := cell_of_heap hb1 1
  simp at e0 e1
  clear hk1 hg
  have HB1 := Lib.hid hb1; clear hb1
  have HKW1 := Lib.hid hkw1; clear hkw1
  have hnk : Keeps No w1 w1.drew := (Keeps.refl _ w1).drew
  go_region_held3 (fun w' => w'.cell? ⟨g, 0, none⟩ = some (.int .u8 3) ∧ w'.cell? ⟨g, 1, none⟩ = some (.string ⟨#[]⟩)) (first | exact ⟨e0, e1⟩ | exact ⟨hq.keeps.cell e0 (fun h => h), hq.keeps.cell e1 (fun h => h)⟩ | go_keep)
    (first | (go_at_call 35; refine (new_any _).mono ?_; rintro e w2 ⟨rfl, rfl⟩; have hq : PkIn w1 _ w1.heap.size [] 0 := PkIn.new w1 w1.drew hnk) | (go_at_call 37; refine (pkin_put1 3 U1.out F1.out hq (by decide)).mono ?_; clear hq; rintro e w2 ⟨rfl, hq⟩) | (go_at_call 40; refine (pkin_text ⟨#[]⟩ hq L0.out (by decide)).mono ?_; clear hq; rintro e w2 ⟨rfl, hq⟩))
  have hb2 := hq.keeps.heap HB1.out (fun h => h)
  have f0 := cell_of_heap hb2 0
  have f2 := cell_of_heap hb2 2
  simp at f0 f2
  obtain ⟨p, hp⟩ : ∃ p, p = w1.heap.size := ⟨_, rfl⟩
  rw [← hp] at hq ⊢
  clear e0 e1 hb2 hp
  go_wp2_with (first | (go_at_call 37; refine (pkin_put1 ks.length U2.out F2.out hq L1.out).mono ?_; clear hq; rintro e w2 ⟨rfl, hq⟩; rw [HE.out] at hq; have hb2 := hq.keeps.heap HB1.out (fun h => h); have f20 := cell_of_heap hb2 0; have f22 := cell_of_heap hb2 2; simp at f20 f22))
  clear f0 f2 f20 f22 hb2
  go_loopw [31] (fun i W => ∃ k : Nat, k ≤ ks.length ∧ i = .int .i64 k ∧ PkIn w1 W p (putTo [3, UInt8.ofNat ks.length] encD ks k) 0) (fun i _ => ks.length - (intOf i).toNat)
  case atStart => exact ⟨0, Nat.zero_le _, rfl, hq⟩
  case round =>
    clear hq
    obtain ⟨k, hk, rfl, hq⟩ := hrel
    by_cases hlt : k < ks.length
    · have hk6 : k ≤ 6 := by have := HN.out; omega
      have hkw := HKW1.out.same hq.keeps
      obtain ⟨b, o, rfl, hra⟩ := (HV.out.keeps hkw (fun _ _ h => h)).at (fun k hk => (HL.out k hk).leaf.hash) k hlt
      have hlf := (HL.out _ (List.getElem_mem hlt)).leaf
      have hdr := (HL.out _ (List.getElem_mem hlt)).dir
      have hns := (HL.out _ (List.getElem_mem hlt)).name
      have hst := putTo_succ [3, UInt8.ofNat ks.length] encD ks k hlt
      have hle := HLE.out k hk
      obtain ⟨K, hK⟩ : ∃ K, K = ks[k] := ⟨_, rfl⟩
      rw [← hK] at hra hlf hst hdr hns
      obtain ⟨B, hB⟩ : ∃ B, B = putTo [3, UInt8.ofNat ks.length] encD ks k := ⟨_, rfl⟩
      rw [← hB] at hst hle hq
      have hz : (Tryd.prog.info? 146).map (·.size) = some (kidV K).length := by rw [kidV_length _ hlf.hash]; exact Tryd.size146
      have hz2 : (Tryd.prog.info? 146).map (·.size) = some (kidV K).toArray.size := by simpa using hz
      have ho2 : (kidV K).toArray.all (·.oneCell') = true := all_oneCell_toArray (kidV_one _)
      have h36 : 36 = (kidV K).toArray.size := by simp [kidV_length _ hlf.hash]
      have h34 := kid34 K hlf.hash
      have h00 := kid0 K
      have h01 := kid1 K
      rw [hdr] at h01
      have h35 := kid35 K hlf.hash
      have hhr : ∀ {W : World} {b : Nat}, W.heap[b]? = some (.cells (kidV K).toArray 146) → W.rangeAt b 2 (bytesV K.hash) := fun h => by
        have := kid_hash hlf.hash (range_block h)
        simpa using this
      have hz32 : (Tryd.prog.info? 70).map (·.size) = some (bytesV K.hash).length := by rw [bytesV_length, hlf.hash]; exact Tryd.size70
      have hh32 := hlf.hash
      have hhl : K.height = 0 := hlf.low
      have hsm := hlf.small
      have v1 : K.height < U64 := by rw [hhl]; decide
      have v2 : K.height < 2 ^ (8 * 1) := by rw [hhl]; decide
      have v3 : K.size < U64 := by unfold U64; omega
      have v4 : K.size < 2 ^ (8 * 4) := by omega
      have w2 : IntKind.u64.wrap (K.height : Int) = K.height := by rw [IntKind.wrap_u64, hhl]; rfl
      have w3 : IntKind.u64.wrap (K.size : Int) = K.size := by rw [IntKind.wrap_u64]; omega
      have m0 : B.length < 90000 := by have := HN.out; omega
      have ma : (B ++ be 1 0).length < 90000 := by have := HN.out; rw [List.length_append, be_length]; omega
      have mb : (B ++ be 1 0 ++ encN K.name).length < 90000 := by have := HN.out; rw [List.length_append, List.length_append, be_length, encN_length]; omega
      have m1 : (B ++ be 1 0 ++ encN K.name ++ K.hash).length < 90000 := by have := HN.out; simp only [List.length_append, be_length, encN_length, hh32]; omega
      have m2 : (B ++ be 1 0 ++ encN K.name ++ K.hash ++ be 1 K.height).length < 90000 := by have := HN.out; simp only [List.length_append, be_length, encN_length, hh32]; omega
      have hE2 : B ++ be 1 0 ++ encN K.name ++ K.hash ++ be 1 K.height ++ be 4 K.size = putTo [3, UInt8.ofNat ks.length] encD ks (k + 1) := by rw [hst]; simp [encD]
      have hn256 : K.name.size < 256 := by omega
      obtain ⟨N, hN⟩ : ∃ N, N = K.name := ⟨_, rfl⟩
      rw [← hN] at h00 mb m1 m2 hE2 hn256
      obtain ⟨KV, hKV⟩ : ∃ KV, KV = kidV K := ⟨_, rfl⟩
      obtain ⟨HS, hHS⟩ : ∃ HS, HS = K.hash := ⟨_, rfl⟩
      obtain ⟨Z, hZ⟩ : ∃ Z, Z = K.size := ⟨_, rfl⟩
      obtain ⟨E, hE⟩ : ∃ E, E = K.height := ⟨_, rfl⟩
      rw [← hKV] at hra hz hz2 ho2 h36 h34 h35 h00 h01
      simp only [← hKV] at hhr
      rw [← hHS] at hz32 hh32 m1 m2 hE2
      simp only [← hHS] at hhr
      rw [← hZ] at h35 v3 v4 w3 hE2
      rw [← hE] at h34 v1 v2 w2 m2 hE2
      have HRA := Lib.hid hra; clear hra
      have HZ := Lib.hid hz; clear hz
      have HZ2 := Lib.hid hz2; clear hz2
      have HO2 := Lib.hid ho2; clear ho2
      have H36 := Lib.hid h36; clear h36
      have H34 := Lib.hid h34; clear h34
      have H00 := Lib.hid h00; clear h00
      have H01 := Lib.hid h01; clear h01
      have HN6 := Lib.hid hn256; clear hn256
      have MA := Lib.hid ma; clear ma
      have MB := Lib.hid mb; clear mb
      have H35 := Lib.hid h35; clear h35
      have H32 := Lib.hid hh32; clear hh32
      have V1 := Lib.hid v1; clear v1
      have V2 := Lib.hid v2; clear v2
      have V3 := Lib.hid v3; clear v3
      have V4 := Lib.hid v4; clear v4
      have M0 := Lib.hid m0; clear m0
      have M1 := Lib.hid m1; clear m1
      have M2 := Lib.hid m2; clear m2
      have HE2 := Lib.hid hE2; clear hE2
      have HQ := Lib.hid hq; clear hq
      have HHR : Hid (∀ {W : World} {b : Nat}, W.heap[b]? = some (.cells KV.toArray 146) → W.rangeAt b 2 (bytesV HS)) := hhr
      clear hhr hst hle hKV hHS hK hlf hB hZ hE hhl hsm hdr hns hN
      have hbk := HQ.out.keeps.heap HB1.out (fun h => h)
      have hg2 : g ≠ wr.heap.size := by have := heap_lt hbk; omega
      have gu0 := cell_of_heap hbk 0
      have gu2 := cell_of_heap hbk 2
      simp at gu0 gu2
      clear hbk
      go_wp2_with (first | (refine wpList_load_mid rfl 146 _ rfl b (o + k * 36) (by rfl) KV _ HRA.out Tryd.underlying146 rfl HZ.out ?_) | (refine wpList_store_row rfl 146 _ _ rfl wr.heap.size KV.toArray (by rfl) (by rfl) 146 _ (heap_alloc_new _ _) HZ2.out H36.out HO2.out ?_; generalize hW3 : World.setRow _ _ _ = W3; obtain ⟨hb3, hk3⟩ := newrow hW3; clear hW3; have hqx := HQ.out.beside hk3 hb3; have e30 := cell_at hb3 H00.out; have e31 := cell_at hb3 H01.out; have e34 := cell_at hb3 H34.out; have e35 := cell_at hb3 H35.out; have er := HHR.out hb3; have e00 := hk3.cell gu0 (fun h => h); clear hb3))
      try go_frame
      have ht70 := Tryd.underlying70
      obtain ⟨nb, hnb⟩ : ∃ nb, nb = wr.heap.size := ⟨_, rfl⟩
      rw [← hnb] at e30 e31 e34 e35 er hqx ⊢
      clear gu0 gu2 hnb
      have hz32' : (Tryd.prog.info? 70).map (·.size) = some (bytesV HS).length := hz32
      have HQ3 := Lib.hid hqx; clear hqx
      have z1 : 0 < U64 := by decide
      have z2 : 0 < 2 ^ (8 * 1) := by decide
      have Z1 := Lib.hid z1; clear z1
      have Z2 := Lib.hid z2; clear z2
      go_wp2_with fail
      go_region_held3 (fun w' => w'.cell? ⟨nb, 0, none⟩ = some (.string N)) (first | exact e30 | exact cell_at hq.row H00.out)
        (first | (go_at_call 37; refine (pkx_put1 0 Z1.out Z2.out (HQ3.out.no ((Keeps.refl _ W3).drew)) M0.out).mono ?_; rintro e w2 ⟨rfl, hq⟩) | (go_at_call 41; refine (pkx_encN N hq MA.out HN6.out).mono ?_; clear hq; rintro e w2 ⟨rfl, hq⟩))
      have e34' := cell_at hq.row H34.out
      have e35' := cell_at hq.row H35.out
      have er' := HHR.out hq.row
      have HQ4 := Lib.hid hq; clear hq e34 e35 er e30 e31
      go_wp2_with fail
      go_region_held3 (fun w' => w'.rangeAt nb 2 (bytesV HS) ∧ w'.cell? ⟨nb, 34, none⟩ = some (.int .u8 E) ∧ w'.cell? ⟨nb, 35, none⟩ = some (.int .u32 Z)) (first | exact ⟨er', e34', e35'⟩ | exact ⟨HHR.out hq.row, cell_at hq.row H34.out, cell_at hq.row H35.out⟩)
        (first | (go_at_call 39; refine (pkx_hash HS H32.out (HQ4.out.no ((Keeps.refl _ _).drew)) MB.out).mono ?_; rintro e w2 ⟨rfl, hq⟩) | (go_at_call 37; (with_reducible refine (pkx_put1 E V1.out V2.out hq M1.out).mono ?_); clear hq; rintro e w2 ⟨rfl, hq⟩) | (go_at_call 37; (with_reducible refine (pkx_put4 Z V3.out V4.out hq M2.out).mono ?_); clear hq; rintro e w2 ⟨rfl, hq⟩))
      have hq5 := hq.pkIn
      rw [HE2.out] at hq5
      clear hq
      go_wp2
      go_roundw
      case rel =>
        (repeat apply Exists.intro)
        exact ⟨⟨k + 1, by omega, by go_num, hq5⟩, rfl⟩
      case measure => simp [intOf]; omega
    · have hge : ¬ (k : Int) < ks.length := by omega
      obtain rfl : k = ks.length := by omega
      have hlf := HLE.out ks.length hk
      have hlf2 : (putTo [3, UInt8.ofNat ks.length] encD ks ks.length).length < 1000000 := by have := HN.out; omega
      obtain ⟨B, hB⟩ : ∃ B, B = putTo [3, UInt8.ofNat ks.length] encD ks ks.length := ⟨_, rfl⟩
      rw [← hB] at hq hlf2
      have HL2 := Lib.hid hlf2; clear hlf2 hlf
      have HQ := Lib.hid hq; clear hq
      have HBB := Lib.hid hB; clear hB
      go_wp2_with (first | (go_at_call 42; refine (pkin_bytes HQ.out HL2.out).mono ?_; rintro e w4 ⟨⟨ao, cp, rfl, ho4, hk4, hf4⟩, hq4⟩))
      go_ret2
      rw [← HBB.out]
      exact bytes_close HKW1.out HQ.out ⟨ao, cp, rfl, ho4, hk4, hf4⟩
end Go.Proofs.YtpniohbjgpncmaaDoor
