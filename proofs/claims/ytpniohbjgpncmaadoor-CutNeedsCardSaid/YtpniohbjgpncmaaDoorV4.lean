/- sha.Sum: it returns a hash: conditions: the two tables lie in their variables. -/
import Derived.Test.YtpniohbjgpncmaaDoorV3
import Derived.Test.YtpniohbjgpncmaaDoorU2
import Derived.Test.YtpniohbjgpncmaaDoorS2
import Derived.Laws.CopyOwn

namespace Go.Proofs.YtpniohbjgpncmaaDoor
open Go.RowKit

def KFirst (w : World) : Prop := ∃ xs : List Int, ∃ fr : TypeId × (Nat × Nat), xs.length = 8 ∧ w.heap[2]? = some (.cells (u32V xs).toArray fr.1 fr.2)
theorem KFirst.keeps {w w' : World} {S : Nat → Prop} (h : KFirst w) (k : Keeps S w w') (hn : ¬ S 2) : KFirst w' := by
  obtain ⟨xs, fr, hl, hh⟩ := h
  exact ⟨xs, fr, hl, k.heap hh hn⟩
/-- Block g is a row of n bytes. -/
def Bts (t : TypeId) (n : Nat) (w : World) (g : Nat) : Prop := ∃ xs : List UInt8, xs.length = n ∧ w.heap[g]? = some (.cells (bytesV xs).toArray t)
theorem Bts.cell {t : TypeId} {n : Nat} {w : World} {g : Nat} (h : Bts t n w g) (k : Nat) (hk : k < n) : ∃ x, w.cell? ⟨g, k, none⟩ = some (.int .u8 x) := by
  obtain ⟨xs, hl, hh⟩ := h
  refine ⟨(xs[k]'(by omega)).toNat, ?_⟩
  rw [cell_of_heap hh k]
  simp [bytesV, hl, hk]
theorem Bts.free {t : TypeId} {n : Nat} {w : World} {g : Nat} (h : Bts t n w g) (k : Nat) : w.frozen? ⟨g, k, none⟩ = false := by
  obtain ⟨xs, hl, hh⟩ := h
  exact frozen_of_heap hh k
theorem Bts.lt {t : TypeId} {n : Nat} {w : World} {g : Nat} (h : Bts t n w g) : g < w.heap.size := by
  obtain ⟨xs, hl, hh⟩ := h
  exact heap_lt hh
theorem Bts.keeps {t : TypeId} {n : Nat} {w w' : World} {g : Nat} {S : Nat → Prop} (h : Bts t n w g) (k : Keeps S w w') (hn : ¬ S g) : Bts t n w' g := by
  obtain ⟨xs, hl, hh⟩ := h
  exact ⟨xs, hl, k.heap hh hn⟩
theorem Bts.set {t : TypeId} {n : Nat} {w : World} {g : Nat} (h : Bts t n w g) (k : Nat) (x : Int) (h0 : 0 ≤ x) (h1 : x < 256) : Bts t n (w.setCell ⟨g, k, none⟩ (.int .u8 x)) g := by
  obtain ⟨xs, hl, hh⟩ := h
  refine ⟨xs.set k (UInt8.ofNat x.toNat), by simp [hl], ?_⟩
  rw [heap_setCell_same _ hh]
  have : ((UInt8.ofNat x.toNat).toNat : Int) = x := by rw [UInt8.toNat_ofNat']; omega
  simp only [bytesV, List.map_set, this, List.setIfInBounds_toArray]
theorem Bts.rd {t : TypeId} {n : Nat} {w : World} {g : Nat} (h : Bts t n w g) : ∃ l : List UInt8, l.length = n ∧ Rd w 1 (.slice (some ⟨g, 0, none⟩) n n) n (bytesV l) := by
  obtain ⟨xs, hl, hh⟩ := h
  exact ⟨xs, hl, rd_block hh 1 n n _ (by rw [bytesV_length, hl, Nat.mul_one]) (Nat.le_refl _) (fun j u hj => by simpa using hj)⟩
def ShaPost (w : World) (e : Ending) (w' : World) : Prop := ∃ h : List UInt8, h.length = 32 ∧ e = .returned (.agg (bytesV h).toArray) ∧ Keeps No w w'

def zl (n : Nat) : List Value := bytesV (List.replicate n 0)
theorem zl_length (n : Nat) : (zl n).length = n := by simp [zl, bytesV]
theorem bts_splice {w : World} {g n : Nat} {CS : List Value} {l : List UInt8} (h : Hid (w.heap[g]? = some (.cells (splice (zl n) 0 CS).toArray 5 (0, 0)))) (hc : CS = bytesV l) (hl : l.length ≤ n) : Bts 5 n w g := by
  refine ⟨l ++ (List.replicate n 0).drop l.length, by simp; omega, ?_⟩
  have h2 := h.out
  subst hc
  rw [h2]
  simp [splice, zl, bytesV]
theorem heap_new2 (w : World) (A B : Obj) : ((w.alloc A).alloc B).heap[w.heap.size + 1]? = some B := by
  have h := heap_alloc_new (w.alloc A) B
  rwa [World.size_alloc] at h
def sliceLen : Value → Nat
  | .slice _ n _ => n
  | _ => 0
def zs (n : Nat) : Array Value := (zl n).toArray
theorem make64 (w : World) : (Instr.makeSlice 27 (.int .i64 64) (.int .i64 64)).run Tryd.prog w = .ok (.slice (some ⟨w.heap.size, 0, none⟩) 64 64) (w.alloc (.cells (zs 64) 5)) := by kernel_rfl
theorem make128 (w : World) : (Instr.makeSlice 27 (.int .i64 128) (.int .i64 128)).run Tryd.prog w = .ok (.slice (some ⟨w.heap.size, 0, none⟩) 128 128) (w.alloc (.cells (zs 128) 5)) := by kernel_rfl
/-- eats at a slice that reads as 64 bytes. -/
theorem eats_rd (hb : Nat) (v : Value) (l : List UInt8) (w : World) (hh : Words 246 8 w hb) (hk : KTab w) (hl : l.length = 64) (hv : Rd w 1 v 64 (bytesV l)) :
    Calls Tryd.prog 171 #[.pointer (some ⟨hb, 0, none⟩), v] w fun e w' => e = .returned (.tuple #[]) ∧ Words 246 8 w' hb ∧ Keeps (fun k => k = hb) w w' := by
  have hv2 := hv
  obtain ⟨h1, a, c, rfl, hc, h2, h3⟩ := hv
  obtain ⟨bb, bo, rfl, _, _⟩ := rd_cell hv2 0 (.int .u8 (l[0]'(by omega)).toNat) (by simp [bytesV, hl])
  refine eats_any hb bb bo c w hh hk (fun j hj => ?_)
  obtain ⟨b', o', he, _, hcell⟩ := rd_cell hv2 j (.int .u8 (l[j]'(by omega)).toNat) (by simp [bytesV, hl, hj])
  cases he
  exact ⟨_, hcell⟩

set_option maxRecDepth 20000 in
set_option maxHeartbeats 2000000 in
theorem sha_any (l : List UInt8) (v : Value) (w : World) (hv : Rd w 1 v l.length (bytesV l)) (hpos : 0 < l.length) (hlen : l.length < 1000000) (hk : KTab w) (hf : KFirst w) :
    Calls Tryd.prog 149 #[v] w (ShaPost w) := by
  have HV := Lib.hid hv
  obtain ⟨h1, a, c, rfl, hc, h2, h3'⟩ := hv
  clear h1 h2 h3'
  have HK := Lib.hid hk; clear hk
  obtain ⟨fs, ffr, hfl, hfh⟩ := hf
  have hfs : (Tryd.prog.info? 246).map (·.size) = some (u32V fs).toArray.size := by rw [Tryd.size246]; simp [u32V_length, hfl]
  have hfo : (u32V fs).toArray.all (·.oneCell') = true := all_oneCell_toArray (u32V_one _)
  have hf8 : 8 = (u32V fs).toArray.size := by simp [u32V_length, hfl]
  obtain ⟨F, hF⟩ : ∃ F, F = (u32V fs).toArray := ⟨_, rfl⟩
  rw [← hF] at hfh hfs hfo hf8
  have HFH := Lib.hid hfh; clear hfh
  have HFS := Lib.hid hfs; clear hfs
  have HFO := Lib.hid hfo; clear hfo
  have HF8 := Lib.hid hf8; clear hf8
  have HF := Lib.hid hF; clear hF
  have HFL := Lib.hid hfl; clear hfl
  go_enter Tryd.func149, Tryd.ntmps149
  go_wp2_with (first | (refine wpList_load_row rfl 246 _ rfl 2 (by rfl) ffr.1 F ffr.2 _ ?_ Tryd.underlying246 rfl HFS.out ?_; exact (keeps_alloc w _).heap HFH.out (fun h => h)) | (refine wpList_store_row rfl 246 _ _ rfl (w.heap.size + 1) F (by rfl) (by rfl) 246 _ (heap_new2 _ _ _) HFS.out HF8.out HFO.out ?_))
  generalize hW0 : World.setRow _ _ _ = W0
  obtain ⟨hb, hhb⟩ : ∃ hb, hb = w.heap.size + 1 := ⟨_, rfl⟩
  have hkW0 : Keeps No w W0 := by rw [← hW0]; exact (keeps_alloc2 w _ _).setRow _ _ (fun h => by omega)
  have hhW0 : Words 246 8 W0 hb := ⟨fs, HFL.out, by rw [← hW0, hhb, ← HF.out]; exact setRow_heap _ _ _ _ _ _ (heap_new2 _ _ _)⟩
  have hoW0 : Bts 70 32 W0 w.heap.size := ⟨List.replicate 32 0, by decide, by
    rw [← hW0]
    exact ((Keeps.refl (fun k => k = w.heap.size + 1) _).setRow _ _ (fun _ => rfl)).heap (heap_new1 _ _ _ _ rfl) (by omega)⟩
  have hown : ∀ b, (Value.slice a l.length c).ownBlock = some b → b < w.heap.size := fun b hb' => Rd.block_lt HV.out hpos b hb'
  have hrd0 := HV.out.keeps hkW0 (fun _ _ h => h)
  rw [← hhb]
  obtain ⟨ob, hob⟩ : ∃ ob, ob = w.heap.size := ⟨_, rfl⟩
  rw [← hob] at hoW0 ⊢
  have hoh : ob ≠ hb := by omega
  have how : w.heap.size ≤ ob := by omega
  have hhw : w.heap.size ≤ hb := by omega
  have HWB := Lib.hid hoh
  clear hW0 hhb hob
  go_loopw [0] (fun v W => ∃ (l' : List UInt8) (a' : Option Addr) (c' : Nat), v = .slice a' l'.length c' ∧ l'.length ≤ c' ∧ Rd W 1 v l'.length (bytesV l') ∧ l'.length ≤ l.length ∧ (∀ b, v.ownBlock = some b → b < w.heap.size) ∧ Words 246 8 W hb ∧ Bts 70 32 W ob ∧ Keeps No w W) (fun v _ => sliceLen v)
  case atStart => exact ⟨l, a, c, rfl, hc, hrd0, Nat.le_refl _, hown, hhW0, hoW0, hkW0⟩
  case round =>
    clear hrd0 hown hhW0 hoW0 hkW0
    obtain ⟨l', a', c', rfl, hc', hrd, hle, hown, hh, ho, hk⟩ := hrel
    by_cases hge : 64 ≤ l'.length
    · obtain ⟨a1, c1, hs1, hr1, _⟩ := slice_to Tryd.slice27 1 Tryd.size27 a' l'.length c' 64 hc' hge
      obtain ⟨a2, c2, hs2, hr2, ho2⟩ := slice_from Tryd.slice27 1 Tryd.size27 a' l'.length c' 64 hge
      have hs1' : ∀ W, Sem.run Tryd.prog (Instr.slice 27 (.slice a' l'.length c') none (some (.int .i64 64)) none) W = .ok (.slice a1 64 c1) W := hs1
      have hs2' : ∀ W, Sem.run Tryd.prog (Instr.slice 27 (.slice a' l'.length c') (some (.int .i64 64)) none none) W = .ok (.slice a2 (l'.length - 64) c2) W := hs2
      clear hs1 hs2
      have hgi : (64 : Int) ≤ l'.length := by omega
      have ht : (l'.take 64).length = 64 := by rw [List.length_take]; omega
      have hr1' := hr1 _ _ hrd
      rw [show (bytesV l').take (64 * 1) = bytesV (l'.take 64) by simp [bytesV]] at hr1'
      have HR1 := Lib.hid hr1'; clear hr1 hr1'
      have HR2 := Lib.hid hr2; clear hr2
      have HRD := Lib.hid hrd; clear hrd
      have HO := Lib.hid hown; clear hown
      have HT := Lib.hid ht; clear ht
      have HO2 := Lib.hid ho2; clear ho2
      go_wp2_with (first | (go_at_call 171; refine (eats_rd hb _ (l'.take 64) _ hh (HK.out.keeps hk (fun h => h)) HT.out HR1.out).mono ?_; rintro e w' ⟨rfl, hh2, hk2⟩))
      have hrd2 := HR2.out _ _ (HRD.out.keeps hk2 (fun b hb' e => by have := HO.out b hb'; omega))
      rw [show (bytesV l').drop (64 * 1) = bytesV (l'.drop 64) by simp [bytesV]] at hrd2
      have ho3 := ho.keeps hk2 HWB.out
      have hk3 : Keeps No w w' := hk.trans hk2 (fun _ _ h => h) (fun i hi h => by omega)
      have hl64 : (l'.drop 64).length = l'.length - 64 := by rw [List.length_drop]
      have hc3 : l'.length - 64 ≤ c2 := by obtain ⟨_, _, _, he, hcc, _⟩ := hrd2; cases he; exact hcc
      have HL := Lib.hid hl64; clear hl64
      go_wp2
      go_roundw
      case rel => exact ⟨l'.drop 64, a2, c2, by rw [HL.out], by rw [HL.out]; exact hc3, by rw [HL.out]; exact hrd2, by rw [HL.out]; omega, fun b hb' => HO.out b (by rw [← HO2.out]; exact hb'), hh2, ho3, hk3⟩
      case measure => simp [sliceLen]; omega
    · have hlt : ¬ (64 : Int) ≤ l'.length := by omega
      obtain ⟨CS, hCS⟩ : ∃ CS, CS = bytesV l' := ⟨_, rfl⟩
      have hcl : CS.length = l'.length := by rw [hCS, bytesV_length]
      have hco : ∀ v ∈ CS, v.oneCell' = true := by rw [hCS]; exact bytesV_one _
      rw [← hCS] at hrd
      have hn64 : l'.length < 64 := by omega
      have hmi : CS.length = Nat.min l'.length 64 := by rw [hcl]; exact (Nat.min_eq_left (by omega)).symm
      have hmi2 : CS.length = Nat.min l'.length 128 := by rw [hcl]; exact (Nat.min_eq_left (by omega)).symm
      have hsrc : ∀ W, Keeps No wr W → 0 < CS.length → ∃ ad, a' = some ad ∧ ∀ j v, CS[j]? = some v → W.cell? (ad.add j) = some v := fun W hW hp => by
        have hr := hrd.keeps hW (fun _ _ h => h)
        obtain ⟨_, a3, c3, he, _, h4, h5⟩ := hr
        cases he
        cases a' with
        | none => have := (h4 rfl).1; omega
        | some ad => exact ⟨ad, rfl, (h5 ad rfl).2⟩
      have HSRC := Lib.hid hsrc; clear hsrc
      have HMI := Lib.hid hmi; clear hmi
      have HMI2 := Lib.hid hmi2; clear hmi2
      have HCO := Lib.hid hco; clear hco
      have HCL := Lib.hid hcl; clear hcl
      have HCS := Lib.hid hCS; clear hCS
      have hm64 := make64
      have hm128 := make128
      have hsz5 : (Tryd.prog.info? 5).map (·.size) = some 1 := by kernel_rfl
      have HS5 := Lib.hid hsz5; clear hsz5
      obtain ⟨gb, hgb⟩ : ∃ gb, gb = wr.heap.size := ⟨_, rfl⟩
      have HO1 := Lib.hid ho; clear ho
      have HH1 := Lib.hid hh; clear hh
      have HK1 := Lib.hid hk; clear hk
      have hobl := HO1.out.lt
      have hhbl := HH1.out.lt
      by_cases h9 : l'.length + 9 ≤ 64
      · have h9i : ¬ (64 : Int) < (l'.length : Int) + 9 := by omega
        go_wp2_with (first | (refine wpList_copy_splice rfl (.tmp 31) (.tmp 32) 27 27 rfl 5 Tryd.underlying27 HS5.out (some ⟨wr.heap.size, 0, none⟩) a' 64 64 l'.length c' (by rfl) (by rfl) (wr.heap.size) 0 (zl 64) 5 (heap_alloc_new _ _) CS HMI.out (fun hp => ⟨rfl, HSRC.out _ (keeps_alloc _ _) hp⟩) (by rw [HCL.out, zl_length]; omega) HCO.out (wr.heap.size) _ (Below.refl _ _) (Nat.le_refl _) ?_; intro w2 hg2 hb2; rw [HCL.out]; have hbt : Bts 5 64 w2 (wr.heap.size) := bts_splice hg2 HCS.out (by omega); obtain ⟨xc, hxc⟩ := hbt.cell l'.length (by omega); have hxf := hbt.free l'.length; have HBT := Lib.hid hbt; clear hbt; have HB2 := Lib.hid hb2; clear hb2; clear hg2))
        have hk2 : Keeps (fun k => k = wr.heap.size) wr w2 := ((keeps_alloc _ _) : Keeps No wr _).trans ⟨HB2.out.os, HB2.out.tape, HB2.out.output, HB2.out.size, fun k hk hn => HB2.out.block k (by simp at hk; omega)⟩ (fun _ _ h => h.elim) (fun _ _ h => h)
        obtain ⟨gb, hgb⟩ : ∃ gb, gb = wr.heap.size := ⟨_, rfl⟩
        rw [← hgb] at hk2 HBT ⊢
        have hgb1 : ob ≠ gb := by omega
        have hgb2 : hb ≠ gb := by omega
        have hgb3 : w.heap.size ≤ gb := by have := HK1.out.size; omega
        have hk3 : Keeps No w w2 := HK1.out.trans hk2 (fun _ _ h => h) (fun i hi h => by omega)
        have hh3 : Words 246 8 w2 hb := HH1.out.keeps hk2 hgb2
        have ho3 : Bts 70 32 w2 ob := HO1.out.keeps hk2 hgb1
        obtain ⟨w3, hw3⟩ : ∃ w3, w3 = w2.setCell ⟨gb, l'.length, none⟩ (.int .u8 128) := ⟨_, rfl⟩
        have hks : Keeps (fun k => k = gb) w2 w3 := by rw [hw3]; exact (Keeps.refl _ _).setCell _ _ (fun _ => rfl)
        have hb4 : Bts 5 64 w3 gb := by rw [hw3]; exact HBT.out.set _ _ (by decide) (by decide)
        have hk4 : Keeps No w w3 := hk3.trans hks (fun _ _ h => h) (fun i hi h => by omega)
        have hh4 := hh3.keeps hks hgb2
        have ho4 := ho3.keeps hks hgb1
        rw [← hw3]
        clear hw3 hks hk3 hh3 ho3 hk2 HBT HB2 HK1 HH1 HO1 hgb hxc hxf hrd HSRC HMI HMI2 HCO HCL HCS hobl hhbl
        go_loopw [35] (fun i W => ∃ k : Nat, k ≤ 8 ∧ i = .int .i64 k ∧ Bts 5 64 W gb ∧ Words 246 8 W hb ∧ Bts 70 32 W ob ∧ Keeps No w W) (fun i _ => 8 - (intOf i).toNat)
        case atStart => exact ⟨0, Nat.zero_le _, rfl, hb4, hh4, ho4, hk4⟩
        case round =>
          clear hb4 hh4 ho4 hk4
          obtain ⟨k, hk8, rfl, hbk, hhk, hok, hkk⟩ := hrel
          by_cases hlt8 : k < 8
          · obtain ⟨xc, hxc⟩ := hbk.cell (64 - 1 - k) (by omega)
            have hxf := hbk.free (64 - 1 - k)
            have i1 : (64 : Int) - 1 - (k : Int) < 64 := by omega
            have i2 : ¬ (64 : Int) - 1 - (k : Int) < 0 := by omega
            have HBK := Lib.hid hbk; clear hbk
            have HHK := Lib.hid hhk; clear hhk
            have HOK := Lib.hid hok; clear hok
            have HKK := Lib.hid hkk; clear hkk
            go_wp2
            go_roundw
            case rel => exact ⟨k + 1, by omega, by go_num, HBK.out.set _ _ (Int.emod_nonneg _ (by decide)) (Int.emod_lt_of_pos _ (by decide)), HHK.out.keeps ((Keeps.refl (fun b => b = gb) _).setCell _ _ (fun _ => rfl)) hgb2, HOK.out.keeps ((Keeps.refl (fun b => b = gb) _).setCell _ _ (fun _ => rfl)) hgb1, HKK.out.setCell _ _ (fun h => by simp at h; omega)⟩
            case measure => simp [intOf]; omega
          · have hge8 : ¬ (k : Int) < 8 := by omega
            obtain ⟨bl0, hbl0, hrl0⟩ := hbk.rd
            obtain ⟨ao0, cp0, hsl0⟩ : ∃ ao cp, ao = some (⟨gb, 0, none⟩ : Addr) ∧ cp = 64 := ⟨_, _, rfl, rfl⟩
            have HR0 := Lib.hid hrl0; clear hrl0 hbk hsl0
            go_wp2
            go_loopw [5] (fun v W => ∃ (m : Nat) (l2 : List UInt8) (a2 : Option Addr) (c2 : Nat), v = .slice a2 l2.length c2 ∧ l2.length = 64 * m ∧ m ≤ 2 ∧ l2.length ≤ c2 ∧ Rd W 1 v l2.length (bytesV l2) ∧ (∀ b, v.ownBlock = some b → b = gb) ∧ Words 246 8 W hb ∧ Bts 70 32 W ob ∧ Keeps No w W) (fun v _ => sliceLen v)
            case atStart => exact ⟨64 / 64, bl0, some ⟨gb, 0, none⟩, 64, by rw [hbl0], by rw [hbl0], by decide, by rw [hbl0]; exact Nat.le_refl _, by rw [hbl0]; exact HR0.out, (fun b hb' => by cases hb'; rfl), hhk, hok, hkk⟩
            case round =>
              clear hhk hok hkk HR0 hbl0
              obtain ⟨m, l2, a2, c2, rfl, hm1, hm2, hc2, hr2, hown2, hh2, ho2, hk2⟩ := hrel
              by_cases hm : 0 < m
              · have hge2 : 64 ≤ l2.length := by omega
                obtain ⟨a3, c3, hs1, hr3, _⟩ := slice_to Tryd.slice27 1 Tryd.size27 a2 l2.length c2 64 hc2 hge2
                obtain ⟨a4, c4, hs2, hr4, ho4⟩ := slice_from Tryd.slice27 1 Tryd.size27 a2 l2.length c2 64 hge2
                have hs1' : ∀ W, Sem.run Tryd.prog (Instr.slice 27 (.slice a2 l2.length c2) none (some (.int .i64 64)) none) W = .ok (.slice a3 64 c3) W := hs1
                have hs2' : ∀ W, Sem.run Tryd.prog (Instr.slice 27 (.slice a2 l2.length c2) (some (.int .i64 64)) none none) W = .ok (.slice a4 (l2.length - 64) c4) W := hs2
                clear hs1 hs2
                have hgi : (0 : Int) < l2.length := by omega
                have ht : (l2.take 64).length = 64 := by rw [List.length_take]; omega
                have hr1' := hr3 _ _ hr2
                rw [show (bytesV l2).take (64 * 1) = bytesV (l2.take 64) by simp [bytesV]] at hr1'
                have HR1 := Lib.hid hr1'; clear hr3 hr1'
                have HR4 := Lib.hid hr4; clear hr4
                have HRD := Lib.hid hr2; clear hr2
                have HT := Lib.hid ht; clear ht
                have HO2 := Lib.hid ho4; clear ho4
                have HOW := Lib.hid hown2; clear hown2
                have HM1 := Lib.hid hm1; clear hm1
                have HKQ := Lib.hid hk2; clear hk2
                go_wp2_with (first | (go_at_call 171; refine (eats_rd hb _ (l2.take 64) _ hh2 (HK.out.keeps HKQ.out (fun h => h)) HT.out HR1.out).mono ?_; rintro e w' ⟨rfl, hh5, hk5⟩))
                have hrd5 := HR4.out _ _ (HRD.out.keeps hk5 (fun b hb' e => by have := HOW.out b hb'; omega))
                rw [show (bytesV l2).drop (64 * 1) = bytesV (l2.drop 64) by simp [bytesV]] at hrd5
                have ho5 := ho2.keeps hk5 HWB.out
                have hk6 : Keeps No w w' := HKQ.out.trans hk5 (fun _ _ h => h) (fun i hi h => by omega)
                have hl64 : (l2.drop 64).length = l2.length - 64 := by rw [List.length_drop]
                have hc5 : l2.length - 64 ≤ c4 := by obtain ⟨_, _, _, he, hcc, _⟩ := hrd5; cases he; exact hcc
                have HL := Lib.hid hl64; clear hl64
                go_wp2
                go_roundw
                case rel => exact ⟨m - 1, l2.drop 64, a4, c4, by rw [HL.out], by rw [HL.out, HM1.out]; omega, by omega, by rw [HL.out]; exact hc5, by rw [HL.out]; exact hrd5, fun b hb' => HOW.out b (by rw [← HO2.out]; exact hb'), hh5, ho5, hk6⟩
                case measure => simp [sliceLen]; omega
              · have hle0 : ¬ (0 : Int) < l2.length := by omega
                obtain ⟨ys, hyl, hyh⟩ := hh2
                have hiy : ∀ i : Nat, i < 8 → ∃ c : Int, ∀ w, (Instr.index 246 (.agg (u32V ys).toArray) (.int .i64 i)).run Tryd.prog w = .ok (.int .u32 c) w := fun i hi =>
                  ⟨ys[i]'(by omega), fun w => run_index_row 246 31 8 i _ _ .u32 Tryd.underlying246 Tryd.underlying31 Tryd.size31 hi (by simp [u32V, hyl, hi]) w⟩
                have hys : (Tryd.prog.info? 246).map (·.size) = some (u32V ys).toArray.size := by rw [Tryd.size246]; simp [u32V_length, hyl]
                obtain ⟨Y, hY⟩ : ∃ Y, Y = (u32V ys).toArray := ⟨_, rfl⟩
                rw [← hY] at hyh hiy hys
                have hyh2 : ∀ O, (wr.alloc O).heap[hb]? = some (.cells Y 246) := fun O => (keeps_alloc wr O).heap hyh (fun h => h)
                have HYH := Lib.hid hyh2; clear hyh hyh2
                have HIY := Lib.hid hiy; clear hiy
                have HYS := Lib.hid hys; clear hys hY hyl
                have HO6 := Lib.hid ho2; clear ho2
                have HK6 := Lib.hid hk2; clear hk2
                clear hr2 hown2
                go_wp2_with (first | (refine wpList_load_row rfl 246 _ rfl hb (by rfl) 246 Y (0, 0) _ ?_ Tryd.underlying246 rfl HYS.out ?_; exact HYH.out _))
                generalize hW6 : World.alloc _ _ = W6
                obtain ⟨tb, htb⟩ : ∃ tb, tb = wr.heap.size := ⟨_, rfl⟩
                have hk06 : Keeps No wr W6 := by rw [← hW6]; exact keeps_alloc _ _
                have htW6 : Bts 70 32 W6 tb := ⟨List.replicate 32 0, by decide, by (rw [← hW6, htb, heap_alloc_new]; rfl)⟩
                have hoW6 : Bts 70 32 W6 ob := HO6.out.keeps hk06 (fun h => h)
                have hto : tb ≠ ob := by have := HO6.out.lt; omega
                have htw : w.heap.size ≤ tb := by have := HK6.out.size; omega
                have hkW6 : Keeps No w W6 := HK6.out.same hk06
                rw [← htb]
                have HTO := Lib.hid hto; clear hto
                clear hW6 htb hk06 HO6 HK6 HYH
                go_loopw [60] (fun i W => ∃ k : Nat, k ≤ 8 ∧ i = .int .i64 k ∧ Bts 70 32 W tb ∧ Bts 70 32 W ob ∧ Keeps No w W) (fun i _ => 8 - (intOf i).toNat)
                case atStart => exact ⟨0, Nat.zero_le _, rfl, htW6, hoW6, hkW6⟩
                case round =>
                  clear htW6 hoW6 hkW6
                  obtain ⟨p, hp, rfl, htp, hop, hkp⟩ := hrel
                  by_cases hp8 : p < 8
                  · obtain ⟨cy, hcy⟩ := HIY.out p hp8
                    go_wp2
                    clear hcy
                    go_loopw [64] (fun i W => ∃ q : Nat, q ≤ 4 ∧ i = .int .i64 q ∧ Bts 70 32 W tb ∧ Bts 70 32 W ob ∧ Keeps No w W) (fun i _ => 4 - (intOf i).toNat)
                    case atStart => exact ⟨0, Nat.zero_le _, rfl, htp, hop, hkp⟩
                    case round =>
                      clear htp hop hkp
                      obtain ⟨q, hq, rfl, htq, hoq, hkq⟩ := hrel
                      by_cases hq4 : q < 4
                      · obtain ⟨xc, hxc⟩ := htq.cell (4 * p + q) (by omega)
                        have hxf := htq.free (4 * p + q)
                        have i1 : 4 * (p : Int) + (q : Int) < 32 := by omega
                        have i2 : ¬ 4 * (p : Int) + (q : Int) < 0 := by omega
                        have i3 : (0 : Int) ≤ 24 - 8 * (q : Int) := by omega
                        have HTQ := Lib.hid htq; clear htq
                        have HOQ := Lib.hid hoq; clear hoq
                        have HKQ := Lib.hid hkq; clear hkq
                        go_wp2
                        go_roundw
                        case rel => exact ⟨q + 1, by omega, by go_num, HTQ.out.set _ _ (Int.emod_nonneg _ (by decide)) (Int.emod_lt_of_pos _ (by decide)), HOQ.out.keeps ((Keeps.refl (fun b => b = tb) _).setCell _ _ (fun _ => rfl)) (fun e => HTO.out e.symm), HKQ.out.setCell _ _ (fun h => by simp at h; omega)⟩
                        case measure => simp [intOf]; omega
                      · have hq5 : ¬ (q : Int) < 4 := by omega
                        go_wp2
                        go_roundw
                        case rel => exact ⟨p + 1, by omega, by go_num, htq, hoq, hkq⟩
                        case measure => simp [intOf]; omega
                  · have hp9 : ¬ (p : Int) < 8 := by omega
                    obtain ⟨hs, hhl, hhh⟩ := htp
                    obtain ⟨os, hol, hoh⟩ := hop
                    have hz70 : (Tryd.prog.info? 70).map (·.size) = some (bytesV hs).toArray.size := by simp [bytesV_length, hhl, Tryd.size70]
                    have ho70 : (bytesV hs).toArray.all (·.oneCell') = true := all_oneCell_toArray (bytesV_one _)
                    have hs70 : (bytesV os).toArray.size = (bytesV hs).toArray.size := by simp [bytesV_length, hhl, hol]
                    obtain ⟨H, hH⟩ : ∃ H, H = (bytesV hs).toArray := ⟨_, rfl⟩
                    obtain ⟨O, hO⟩ : ∃ O, O = (bytesV os).toArray := ⟨_, rfl⟩
                    rw [← hH] at hhh hz70 ho70 hs70
                    rw [← hO] at hoh hs70
                    have HHH := Lib.hid hhh; clear hhh
                    have HOH := Lib.hid hoh; clear hoh
                    have HZ := Lib.hid hz70; clear hz70
                    have HO7 := Lib.hid ho70; clear ho70
                    have HS7 := Lib.hid hs70; clear hs70
                    have HH7 := Lib.hid hH; clear hH hO
                    have HHL := Lib.hid hhl; clear hhl hol
                    have HKP := Lib.hid hkp; clear hkp
                    go_wp2_with (first | (refine wpList_load_row rfl 70 _ rfl tb (by rfl) 70 H (0, 0) _ HHH.out Tryd.underlying70 rfl HZ.out ?_) | (refine wpList_store_row rfl 70 _ _ rfl ob H (by rfl) (by rfl) 70 O HOH.out HZ.out HS7.out HO7.out ?_))
                    refine bodyPost_ret (v := .agg H) (results_cell_row rfl _ _ ob 70 _ (0, 0) _ (by rfl) (setRow_heap _ _ _ _ _ _ HOH.out) Tryd.underlying70 rfl HZ.out) rfl ⟨hs, HHL.out, by rw [← HH7.out], ?_⟩
                    exact HKP.out.setRow _ _ (fun h => by omega)
      · have h9i : (64 : Int) < (l'.length : Int) + 9 := by omega
        go_wp2_with (first | (refine wpList_copy_splice rfl (.tmp 31) (.tmp 32) 27 27 rfl 5 Tryd.underlying27 HS5.out (some ⟨wr.heap.size + 1, 0, none⟩) a' 128 128 l'.length c' (by rfl) (by rfl) (wr.heap.size + 1) 0 (zl 128) 5 (heap_new2 _ _ _) CS HMI2.out (fun hp => ⟨rfl, HSRC.out _ (keeps_alloc2 _ _ _) hp⟩) (by rw [HCL.out, zl_length]; omega) HCO.out (wr.heap.size + 1) _ (Below.refl _ _) (Nat.le_refl _) ?_; intro w2 hg2 hb2; rw [HCL.out]; have hbt : Bts 5 128 w2 (wr.heap.size + 1) := bts_splice hg2 HCS.out (by omega); obtain ⟨xc, hxc⟩ := hbt.cell l'.length (by omega); have hxf := hbt.free l'.length; have HBT := Lib.hid hbt; clear hbt; have HB2 := Lib.hid hb2; clear hb2; clear hg2))
        have hk2 : Keeps (fun k => k = wr.heap.size + 1) wr w2 := ((keeps_alloc2 _ _ _) : Keeps No wr _).trans ⟨HB2.out.os, HB2.out.tape, HB2.out.output, HB2.out.size, fun k hk hn => HB2.out.block k (by simp at hk; omega)⟩ (fun _ _ h => h.elim) (fun _ _ h => h)
        obtain ⟨gb, hgb⟩ : ∃ gb, gb = wr.heap.size + 1 := ⟨_, rfl⟩
        rw [← hgb] at hk2 HBT ⊢
        have hgb1 : ob ≠ gb := by omega
        have hgb2 : hb ≠ gb := by omega
        have hgb3 : w.heap.size ≤ gb := by have := HK1.out.size; omega
        have hk3 : Keeps No w w2 := HK1.out.trans hk2 (fun _ _ h => h) (fun i hi h => by omega)
        have hh3 : Words 246 8 w2 hb := HH1.out.keeps hk2 hgb2
        have ho3 : Bts 70 32 w2 ob := HO1.out.keeps hk2 hgb1
        obtain ⟨w3, hw3⟩ : ∃ w3, w3 = w2.setCell ⟨gb, l'.length, none⟩ (.int .u8 128) := ⟨_, rfl⟩
        have hks : Keeps (fun k => k = gb) w2 w3 := by rw [hw3]; exact (Keeps.refl _ _).setCell _ _ (fun _ => rfl)
        have hb4 : Bts 5 128 w3 gb := by rw [hw3]; exact HBT.out.set _ _ (by decide) (by decide)
        have hk4 : Keeps No w w3 := hk3.trans hks (fun _ _ h => h) (fun i hi h => by omega)
        have hh4 := hh3.keeps hks hgb2
        have ho4 := ho3.keeps hks hgb1
        rw [← hw3]
        clear hw3 hks hk3 hh3 ho3 hk2 HBT HB2 HK1 HH1 HO1 hgb hxc hxf hrd HSRC HMI HMI2 HCO HCL HCS hobl hhbl
        go_loopw [35] (fun i W => ∃ k : Nat, k ≤ 8 ∧ i = .int .i64 k ∧ Bts 5 128 W gb ∧ Words 246 8 W hb ∧ Bts 70 32 W ob ∧ Keeps No w W) (fun i _ => 8 - (intOf i).toNat)
        case atStart => exact ⟨0, Nat.zero_le _, rfl, hb4, hh4, ho4, hk4⟩
        case round =>
          clear hb4 hh4 ho4 hk4
          obtain ⟨k, hk8, rfl, hbk, hhk, hok, hkk⟩ := hrel
          by_cases hlt8 : k < 8
          · obtain ⟨xc, hxc⟩ := hbk.cell (128 - 1 - k) (by omega)
            have hxf := hbk.free (128 - 1 - k)
            have i1 : (128 : Int) - 1 - (k : Int) < 128 := by omega
            have i2 : ¬ (128 : Int) - 1 - (k : Int) < 0 := by omega
            have HBK := Lib.hid hbk; clear hbk
            have HHK := Lib.hid hhk; clear hhk
            have HOK := Lib.hid hok; clear hok
            have HKK := Lib.hid hkk; clear hkk
            go_wp2
            go_roundw
            case rel => exact ⟨k + 1, by omega, by go_num, HBK.out.set _ _ (Int.emod_nonneg _ (by decide)) (Int.emod_lt_of_pos _ (by decide)), HHK.out.keeps ((Keeps.refl (fun b => b = gb) _).setCell _ _ (fun _ => rfl)) hgb2, HOK.out.keeps ((Keeps.refl (fun b => b = gb) _).setCell _ _ (fun _ => rfl)) hgb1, HKK.out.setCell _ _ (fun h => by simp at h; omega)⟩
            case measure => simp [intOf]; omega
          · have hge8 : ¬ (k : Int) < 8 := by omega
            obtain ⟨bl0, hbl0, hrl0⟩ := hbk.rd
            obtain ⟨ao0, cp0, hsl0⟩ : ∃ ao cp, ao = some (⟨gb, 0, none⟩ : Addr) ∧ cp = 128 := ⟨_, _, rfl, rfl⟩
            have HR0 := Lib.hid hrl0; clear hrl0 hbk hsl0
            go_wp2
            go_loopw [5] (fun v W => ∃ (m : Nat) (l2 : List UInt8) (a2 : Option Addr) (c2 : Nat), v = .slice a2 l2.length c2 ∧ l2.length = 64 * m ∧ m ≤ 2 ∧ l2.length ≤ c2 ∧ Rd W 1 v l2.length (bytesV l2) ∧ (∀ b, v.ownBlock = some b → b = gb) ∧ Words 246 8 W hb ∧ Bts 70 32 W ob ∧ Keeps No w W) (fun v _ => sliceLen v)
            case atStart => exact ⟨128 / 64, bl0, some ⟨gb, 0, none⟩, 128, by rw [hbl0], by rw [hbl0], by decide, by rw [hbl0]; exact Nat.le_refl _, by rw [hbl0]; exact HR0.out, (fun b hb' => by cases hb'; rfl), hhk, hok, hkk⟩
            case round =>
              clear hhk hok hkk HR0 hbl0
              obtain ⟨m, l2, a2, c2, rfl, hm1, hm2, hc2, hr2, hown2, hh2, ho2, hk2⟩ := hrel
              by_cases hm : 0 < m
              · have hge2 : 64 ≤ l2.length := by omega
                obtain ⟨a3, c3, hs1, hr3, _⟩ := slice_to Tryd.slice27 1 Tryd.size27 a2 l2.length c2 64 hc2 hge2
                obtain ⟨a4, c4, hs2, hr4, ho4⟩ := slice_from Tryd.slice27 1 Tryd.size27 a2 l2.length c2 64 hge2
                have hs1' : ∀ W, Sem.run Tryd.prog (Instr.slice 27 (.slice a2 l2.length c2) none (some (.int .i64 64)) none) W = .ok (.slice a3 64 c3) W := hs1
                have hs2' : ∀ W, Sem.run Tryd.prog (Instr.slice 27 (.slice a2 l2.length c2) (some (.int .i64 64)) none none) W = .ok (.slice a4 (l2.length - 64) c4) W := hs2
                clear hs1 hs2
                have hgi : (0 : Int) < l2.length := by omega
                have ht : (l2.take 64).length = 64 := by rw [List.length_take]; omega
                have hr1' := hr3 _ _ hr2
                rw [show (bytesV l2).take (64 * 1) = bytesV (l2.take 64) by simp [bytesV]] at hr1'
                have HR1 := Lib.hid hr1'; clear hr3 hr1'
                have HR4 := Lib.hid hr4; clear hr4
                have HRD := Lib.hid hr2; clear hr2
                have HT := Lib.hid ht; clear ht
                have HO2 := Lib.hid ho4; clear ho4
                have HOW := Lib.hid hown2; clear hown2
                have HM1 := Lib.hid hm1; clear hm1
                have HKQ := Lib.hid hk2; clear hk2
                go_wp2_with (first | (go_at_call 171; refine (eats_rd hb _ (l2.take 64) _ hh2 (HK.out.keeps HKQ.out (fun h => h)) HT.out HR1.out).mono ?_; rintro e w' ⟨rfl, hh5, hk5⟩))
                have hrd5 := HR4.out _ _ (HRD.out.keeps hk5 (fun b hb' e => by have := HOW.out b hb'; omega))
                rw [show (bytesV l2).drop (64 * 1) = bytesV (l2.drop 64) by simp [bytesV]] at hrd5
                have ho5 := ho2.keeps hk5 HWB.out
                have hk6 : Keeps No w w' := HKQ.out.trans hk5 (fun _ _ h => h) (fun i hi h => by omega)
                have hl64 : (l2.drop 64).length = l2.length - 64 := by rw [List.length_drop]
                have hc5 : l2.length - 64 ≤ c4 := by obtain ⟨_, _, _, he, hcc, _⟩ := hrd5; cases he; exact hcc
                have HL := Lib.hid hl64; clear hl64
                go_wp2
                go_roundw
                case rel => exact ⟨m - 1, l2.drop 64, a4, c4, by rw [HL.out], by rw [HL.out, HM1.out]; omega, by omega, by rw [HL.out]; exact hc5, by rw [HL.out]; exact hrd5, fun b hb' => HOW.out b (by rw [← HO2.out]; exact hb'), hh5, ho5, hk6⟩
                case measure => simp [sliceLen]; omega
              · have hle0 : ¬ (0 : Int) < l2.length := by omega
                obtain ⟨ys, hyl, hyh⟩ := hh2
                have hiy : ∀ i : Nat, i < 8 → ∃ c : Int, ∀ w, (Instr.index 246 (.agg (u32V ys).toArray) (.int .i64 i)).run Tryd.prog w = .ok (.int .u32 c) w := fun i hi =>
                  ⟨ys[i]'(by omega), fun w => run_index_row 246 31 8 i _ _ .u32 Tryd.underlying246 Tryd.underlying31 Tryd.size31 hi (by simp [u32V, hyl, hi]) w⟩
                have hys : (Tryd.prog.info? 246).map (·.size) = some (u32V ys).toArray.size := by rw [Tryd.size246]; simp [u32V_length, hyl]
                obtain ⟨Y, hY⟩ : ∃ Y, Y = (u32V ys).toArray := ⟨_, rfl⟩
                rw [← hY] at hyh hiy hys
                have hyh2 : ∀ O, (wr.alloc O).heap[hb]? = some (.cells Y 246) := fun O => (keeps_alloc wr O).heap hyh (fun h => h)
                have HYH := Lib.hid hyh2; clear hyh hyh2
                have HIY := Lib.hid hiy; clear hiy
                have HYS := Lib.hid hys; clear hys hY hyl
                have HO6 := Lib.hid ho2; clear ho2
                have HK6 := Lib.hid hk2; clear hk2
                clear hr2 hown2
                go_wp2_with (first | (refine wpList_load_row rfl 246 _ rfl hb (by rfl) 246 Y (0, 0) _ ?_ Tryd.underlying246 rfl HYS.out ?_; exact HYH.out _))
                generalize hW6 : World.alloc _ _ = W6
                obtain ⟨tb, htb⟩ : ∃ tb, tb = wr.heap.size := ⟨_, rfl⟩
                have hk06 : Keeps No wr W6 := by rw [← hW6]; exact keeps_alloc _ _
                have htW6 : Bts 70 32 W6 tb := ⟨List.replicate 32 0, by decide, by (rw [← hW6, htb, heap_alloc_new]; rfl)⟩
                have hoW6 : Bts 70 32 W6 ob := HO6.out.keeps hk06 (fun h => h)
                have hto : tb ≠ ob := by have := HO6.out.lt; omega
                have htw : w.heap.size ≤ tb := by have := HK6.out.size; omega
                have hkW6 : Keeps No w W6 := HK6.out.same hk06
                rw [← htb]
                have HTO := Lib.hid hto; clear hto
                clear hW6 htb hk06 HO6 HK6 HYH
                go_loopw [60] (fun i W => ∃ k : Nat, k ≤ 8 ∧ i = .int .i64 k ∧ Bts 70 32 W tb ∧ Bts 70 32 W ob ∧ Keeps No w W) (fun i _ => 8 - (intOf i).toNat)
                case atStart => exact ⟨0, Nat.zero_le _, rfl, htW6, hoW6, hkW6⟩
                case round =>
                  clear htW6 hoW6 hkW6
                  obtain ⟨p, hp, rfl, htp, hop, hkp⟩ := hrel
                  by_cases hp8 : p < 8
                  · obtain ⟨cy, hcy⟩ := HIY.out p hp8
                    go_wp2
                    clear hcy
                    go_loopw [64] (fun i W => ∃ q : Nat, q ≤ 4 ∧ i = .int .i64 q ∧ Bts 70 32 W tb ∧ Bts 70 32 W ob ∧ Keeps No w W) (fun i _ => 4 - (intOf i).toNat)
                    case atStart => exact ⟨0, Nat.zero_le _, rfl, htp, hop, hkp⟩
                    case round =>
                      clear htp hop hkp
                      obtain ⟨q, hq, rfl, htq, hoq, hkq⟩ := hrel
                      by_cases hq4 : q < 4
                      · obtain ⟨xc, hxc⟩ := htq.cell (4 * p + q) (by omega)
                        have hxf := htq.free (4 * p + q)
                        have i1 : 4 * (p : Int) + (q : Int) < 32 := by omega
                        have i2 : ¬ 4 * (p : Int) + (q : Int) < 0 := by omega
                        have i3 : (0 : Int) ≤ 24 - 8 * (q : Int) := by omega
                        have HTQ := Lib.hid htq; clear htq
                        have HOQ := Lib.hid hoq; clear hoq
                        have HKQ := Lib.hid hkq; clear hkq
                        go_wp2
                        go_roundw
                        case rel => exact ⟨q + 1, by omega, by go_num, HTQ.out.set _ _ (Int.emod_nonneg _ (by decide)) (Int.emod_lt_of_pos _ (by decide)), HOQ.out.keeps ((Keeps.refl (fun b => b = tb) _).setCell _ _ (fun _ => rfl)) (fun e => HTO.out e.symm), HKQ.out.setCell _ _ (fun h => by simp at h; omega)⟩
                        case measure => simp [intOf]; omega
                      · have hq5 : ¬ (q : Int) < 4 := by omega
                        go_wp2
                        go_roundw
                        case rel => exact ⟨p + 1, by omega, by go_num, htq, hoq, hkq⟩
                        case measure => simp [intOf]; omega
                  · have hp9 : ¬ (p : Int) < 8 := by omega
                    obtain ⟨hs, hhl, hhh⟩ := htp
                    obtain ⟨os, hol, hoh⟩ := hop
                    have hz70 : (Tryd.prog.info? 70).map (·.size) = some (bytesV hs).toArray.size := by simp [bytesV_length, hhl, Tryd.size70]
                    have ho70 : (bytesV hs).toArray.all (·.oneCell') = true := all_oneCell_toArray (bytesV_one _)
                    have hs70 : (bytesV os).toArray.size = (bytesV hs).toArray.size := by simp [bytesV_length, hhl, hol]
                    obtain ⟨H, hH⟩ : ∃ H, H = (bytesV hs).toArray := ⟨_, rfl⟩
                    obtain ⟨O, hO⟩ : ∃ O, O = (bytesV os).toArray := ⟨_, rfl⟩
                    rw [← hH] at hhh hz70 ho70 hs70
                    rw [← hO] at hoh hs70
                    have HHH := Lib.hid hhh; clear hhh
                    have HOH := Lib.hid hoh; clear hoh
                    have HZ := Lib.hid hz70; clear hz70
                    have HO7 := Lib.hid ho70; clear ho70
                    have HS7 := Lib.hid hs70; clear hs70
                    have HH7 := Lib.hid hH; clear hH hO
                    have HHL := Lib.hid hhl; clear hhl hol
                    have HKP := Lib.hid hkp; clear hkp
                    go_wp2_with (first | (refine wpList_load_row rfl 70 _ rfl tb (by rfl) 70 H (0, 0) _ HHH.out Tryd.underlying70 rfl HZ.out ?_) | (refine wpList_store_row rfl 70 _ _ rfl ob H (by rfl) (by rfl) 70 O HOH.out HZ.out HS7.out HO7.out ?_))
                    refine bodyPost_ret (v := .agg H) (results_cell_row rfl _ _ ob 70 _ (0, 0) _ (by rfl) (setRow_heap _ _ _ _ _ _ HOH.out) Tryd.underlying70 rfl HZ.out) rfl ⟨hs, HHL.out, by rw [← HH7.out], ?_⟩
                    exact HKP.out.setRow _ _ (fun h => by omega)
end Go.Proofs.YtpniohbjgpncmaaDoor
