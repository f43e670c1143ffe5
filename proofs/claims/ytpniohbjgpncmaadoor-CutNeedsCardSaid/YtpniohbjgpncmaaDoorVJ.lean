/- cut: a file: conditions: at most 480 bytes. -/
import Derived.Test.YtpniohbjgpncmaaDoorVH
import Derived.Outline
namespace Go.Proofs.YtpniohbjgpncmaaDoor
open Go.RowKit
attribute [local go_sem] Oper.semAt_some

def findRange (n : Nat) : Code → Option Code
  | .loop c => findRange n c
  | .seq a b => match findRange n a with
    | some c => some c
    | none => findRange n b
  | .block _ c => findRange n c
  | .scope c => findRange n c
  | .cond _ a b => match findRange n a with
    | some c => some c
    | none => findRange n b
  | .rangeFunc g ps a b => if ps = #[n] then some (.rangeFunc g ps a b) else none
  | _ => none
noncomputable def fileR1 : Code := ((Tryd.f121.body.bind (findRange 12)).getD .skip)
noncomputable def fileR2 : Code := ((Tryd.f121.body.bind (findRange 26)).getD .skip)

theorem sizeTo_le2 (ks : List KidD) (h : ∀ k ∈ ks, k.size ≤ 1000) : ∀ i, sizeTo ks i ≤ 1000 * i
  | 0 => Nat.le_refl _
  | i + 1 => by
    have ih := sizeTo_le2 ks h i
    unfold sizeTo
    cases hk : ks[i]? with
    | none => simp [hk]; omega
    | some k =>
      have := h k (List.mem_of_getElem? hk)
      simp [hk]; omega
theorem cu_blob (x : Nat) (v : Value) (outs : List ByteArray) (data : ByteArray) (w : World) (hc : Cu w x v outs) (hk : KTab w) (hf : KFirst w) (hx : 3 < x) (hv : ∀ k, v.ownBlock = some k → 3 < k) (hd : data.size ≤ 240) (hol : outs.length < 1000) :
    Calls Tryd.prog 122 #[.pointer (some ⟨x, 0, none⟩), chunkV 1 data (.slice none 0 0)] w (CuPost w x v outs ⟨(1 :: bl data).toArray⟩ 0 data.size) :=
  cuput x v outs 1 data _ (1 :: bl data) 0 data.size w hc (fun W _ => put_blob data W hd) (fun W _ => height_blob data _ W) (fun W _ => size_blob data _ W (by omega)) hk hf hx hv (by simp) (by simp [bl_length]; omega) (by omega) (by omega) hol
def PK1 (k : KidD) : Prop := Plain k ∧ k.size ≤ 1000
def indexB (ks : List KidD) : List UInt8 := putTo [2, UInt8.ofNat ks.length] encI ks ks.length
theorem flat_length (f : KidD → List UInt8) (n : Nat) : ∀ ks : List KidD, (∀ k ∈ ks, (f k).length = n) → (ks.flatMap f).length = n * ks.length
  | [], _ => by simp
  | k :: ks, h => by
    rw [List.flatMap_cons, List.length_append, flat_length f n ks (fun k hk => h k (by simp [hk])), h k (by simp), List.length_cons, Nat.mul_add]
    omega
theorem indexB_length (ks : List KidD) (h : ∀ k ∈ ks, PK1 k) : (indexB ks).length = 2 + 37 * ks.length := by
  unfold indexB putTo
  rw [List.take_length, List.length_append, flat_length encI 37 ks (fun k hk => encI_length k (h k hk).1.leaf.hash)]
  simp
theorem cu_index (x : Nat) (v : Value) (outs : List ByteArray) (u : Value) (ks : List KidD) (w : World) (hc : Cu w x v outs) (hk : KTab w) (hf : KFirst w) (hx : 3 < x) (hv : ∀ k, v.ownBlock = some k → 3 < k) (hu : Kids w u ks) (hub : ∀ k, u.ownBlock = some k → ¬ (k = x ∨ v.ownBlock = some k)) (hl : ∀ k ∈ ks, PK1 k) (hn : ks.length ≤ 6) (h0 : 0 < ks.length) (hol : outs.length < 1000) :
    Calls Tryd.prog 122 #[.pointer (some ⟨x, 0, none⟩), chunkV 2 ⟨#[]⟩ u] w (CuPost w x v outs ⟨(indexB ks).toArray⟩ 1 (sizeTo ks ks.length)) := by
  have hlen := indexB_length ks hl
  have hsz := sizeTo_le2 ks (fun k hk => (hl k hk).2) ks.length
  exact cuput x v outs 2 ⟨#[]⟩ u (indexB ks) 1 _ w hc (fun W k => put_index u ks W (hu.keeps k hub) (fun k hk => (hl k hk).1) hn h0) (fun W k => height_node 2 (.inl rfl) _ u ks W (hu.keeps k hub) (fun k hk => (hl k hk).1.leaf) hn)
    (fun W k => size_index _ u ks W (hu.keeps k hub) (fun k hk => (hl k hk).1.leaf) hn) hk hf hx hv (by omega) (by omega) (by omega) (by omega) hol

def CbF (x : Nat) (v : Value) (C : Nat) (k : Nat) : Prop := k = x ∨ v.ownBlock = some k ∨ k = C
def FInv (W0 : World) (x : Nat) (v : Value) (outs : List ByteArray) (C : Nat) (Own : Nat → Prop) (PK : KidD → Prop) (txt : List ByteArray) (W : World) : Prop :=
  ∃ (v' lv' : Value) (ks : List KidD), Lv W x v' (outs ++ txt) C lv' ks.length (ks.flatMap kidV) ∧ ks.length = txt.length ∧ (∀ k ∈ ks, PK k) ∧ Keeps (fun k => CbF x v C k ∨ Own k) W0 W ∧
    (v'.ownBlock = v.ownBlock ∨ ∀ k, v'.ownBlock = some k → W0.heap.size + 1 < k) ∧ (∀ k, lv'.ownBlock = some k → W0.heap.size + 1 < k)
theorem finv_round {W0 W W' : World} {x : Nat} {v v' lv' : Value} {outs txt : List ByteArray} {C : Nat} {Own : Nat → Prop} {PK : KidD → Prop} {ks : List KidD} {s : ByteArray} {H S : Nat} (hks : ks.length = txt.length) (hpk : ∀ k ∈ ks, PK k) (hkw : Keeps (fun k => CbF x v C k ∨ Own k) W0 W)
    (hb1 : v'.ownBlock = v.ownBlock ∨ ∀ k, v'.ownBlock = some k → W0.heap.size + 1 < k) (hb2 : ∀ k, lv'.ownBlock = some k → W0.heap.size + 1 < k) (hlt : W0.heap.size + 1 < W.heap.size) (hnew : ∀ h : List UInt8, h.length = 32 → PK (leafK h H S))
    (hp : LvPost W x v' (outs ++ txt) C lv' ks.length (ks.flatMap kidV) s H S W') : Keeps (fun k => CbF x v C k ∨ W0.heap.size + 1 < k) W W' ∧ FInv W0 x v outs C Own PK (txt ++ [s]) W' := by
  obtain ⟨h, v2, lv2, hh, hL, hk, f1, f2⟩ := hp
  have hk2 : Keeps (fun k => CbF x v C k ∨ W0.heap.size + 1 < k) W W' := hk.mono fun k _ e => by
    rcases e with e | e | e | e
    · exact .inl (.inl e)
    · rcases hb1 with g | g
      · exact .inl (.inr (.inl (g ▸ e)))
      · exact .inr (g k e)
    · exact .inl (.inr (.inr e))
    · exact .inr (hb2 k e)
  refine ⟨hk2, v2, lv2, ks ++ [leafK h H S], ?_, by simp [hks], ?_, hkw.trans hk2 (fun _ _ h => h) (fun i hi h => h.imp id (fun h => by omega)), ?_, ?_⟩
  · rw [← List.append_assoc]
    simpa using hL
  · intro k hk
    rcases List.mem_append.1 hk with hk | hk
    · exact hpk k hk
    · rw [List.mem_singleton.1 hk]; exact hnew h hh
  · rcases f1 with g | g
    · rw [g]; exact hb1
    · exact .inr fun k hk => Nat.lt_of_lt_of_le hlt (g k hk)
  · intro k hk
    rcases f2 with g | g
    · exact hb2 k (g ▸ hk)
    · exact Nat.lt_of_lt_of_le hlt (g k hk)
theorem FInv.keeps {W0 W W' : World} {x : Nat} {v : Value} {outs txt : List ByteArray} {C : Nat} {Own : Nat → Prop} {PK : KidD → Prop} (h : FInv W0 x v outs C Own PK txt W) (hk : Keeps (fun k => Own k ∨ k = W0.heap.size ∨ k = W0.heap.size + 1) W W')
    (hOwn : ∀ k, Own k → k < W0.heap.size ∧ ¬ CbF x v C k) (hC : C < W0.heap.size) (hx : x < W0.heap.size) (hv : ∀ k, v.ownBlock = some k → k < W0.heap.size) : FInv W0 x v outs C Own PK txt W' := by
  obtain ⟨v', lv', ks, hL, h1, h2, h3, h4, h5⟩ := h
  refine ⟨v', lv', ks, hL.keeps hk ?_, h1, h2, h3.trans hk (fun _ _ h => h) (fun i hi h => by rcases h with h | h | h; exact .inr h; omega; omega), h4, h5⟩
  intro i hi e
  have hi2 : CbF x v C i ∨ W0.heap.size + 1 < i := by
    rcases hi with g | g | g | g
    · exact .inl (.inl g)
    · rcases h4 with q | q
      · exact .inl (.inr (.inl (q ▸ g)))
      · exact .inr (q i g)
    · exact .inl (.inr (.inr g))
    · exact .inr (h5 i g)
  have hil : CbF x v C i → i < W0.heap.size := by
    rintro (g | g | g)
    · omega
    · exact hv i g
    · omega
  rcases e with e | e | e
  · rcases hi2 with g | g
    · exact (hOwn i e).2 g
    · have := (hOwn i e).1; omega
  · rcases hi2 with g | g
    · have := hil g; omega
    · omega
  · rcases hi2 with g | g
    · have := hil g; omega
    · omega

set_option maxRecDepth 20000 in
set_option maxHeartbeats 1600000 in
theorem fileR1_wp (x B2 C : Nat) (lb : Array Value) (xs : List Value) (T : List ByteArray) (Own : Nat → Prop) (v : Value) (outs : List ByteArray) (W0 : World) (Q : Exit → Act → World → Prop) (ds : List Deferred) (s0 s1 s3 s4 s6 s7 s8 s9 s10 s12 s13 s14 s15 s16 s17 s18 s19 s20 s21 s22 s23 s24 s25 s26 s27 s28 s29 s30 s31 s32 s33 s34 s35 s36 s37 : Value)
    (hit : IterC Tryd.prog 169 lb encP Own (fun k => CbF x v C k ∨ W0.heap.size ≤ k) xs (fun _ => True) W0)
    (hl : Lv W0 x v outs C (.slice none 0 0) 0 []) (hT : T.length = xs.length) (hol : outs.length + xs.length < 900)
    (hpc : ∀ (i : Nat) (y : Value), xs[i]? = some y → ∃ (ap : Option Addr) (m cp : Nat) (bs : List UInt8), y = .slice ap m cp ∧ T[i]? = some ⟨(1 :: bs).toArray⟩ ∧ Rd W0 1 (.slice ap m cp) m (bytesV bs) ∧ bs.length = m ∧ m ≤ 240 ∧ (∀ b, (Value.slice ap m cp).ownBlock = some b → b < W0.heap.size ∧ ¬ (CbF x v C b ∨ Own b)))
    (h2 : W0.heap[B2]? = some (.cells #[.pointer (some ⟨x, 0, none⟩)] 142)) (hB2 : ¬ (CbF x v C B2 ∨ Own B2)) (hk : KTab W0) (hf : KFirst W0) (hlow : ∀ k, k ≤ 3 → ¬ (CbF x v C k ∨ Own k)) (hOwn : ∀ k, Own k → k < W0.heap.size ∧ ¬ CbF x v C k)
    (hQ : ∀ W, FInv W0 x v outs C Own PK1 T W → W.heap[W0.heap.size]? = some (.deferred (some [])) → Q .normal { tmps := #[s0, s1, .pointer (some ⟨B2, 0, none⟩), s3, s4, .pointer (some ⟨C, 0, none⟩), s6, s7, s8, s9, s10, .func (.func 169) #[] lb, s12, s13, s14, s15, s16, s17, s18, s19, s20, s21, s22, s23, s24, s25, s26, s27, s28, s29, s30, s31, s32, s33, s34, s35, s36, s37], defers := { target := .collected W0.heap.size, args := #[] } :: ds } W) :
    fileR1.wp Tryd.prog Q { tmps := #[s0, s1, .pointer (some ⟨B2, 0, none⟩), s3, s4, .pointer (some ⟨C, 0, none⟩), s6, s7, s8, s9, s10, .func (.func 169) #[] lb, s12, s13, s14, s15, s16, s17, s18, s19, s20, s21, s22, s23, s24, s25, s26, s27, s28, s29, s30, s31, s32, s33, s34, s35, s36, s37], defers := ds } W0 := by
  conv => arg 2; whnf
  have hxl := heap_lt hl.cu.heap
  have hvl : ∀ k, v.ownBlock = some k → k < W0.heap.size := fun k hk => own_lt hl.cu.own k hk
  have hCl := heap_lt hl.cell
  have hB2l := heap_lt h2
  have h3l : 3 < W0.heap.size := by obtain ⟨_, _, _, hh⟩ := hk; exact heap_lt hh
  have h00 : FInv W0 x v outs C Own PK1 [] W0 := ⟨v, .slice none 0 0, [], by simpa using hl, rfl, by simp, Keeps.refl _ _, .inl rfl, by simp [Value.ownBlock]⟩
  refine wp_range_own (gf := 169) (lb := lb) rfl (fun args w => by kernel_rfl) (encs := encP) (Own := Own) (Cb := CbF x v C) (xs := xs) (S := fun _ => True) (fun k hk => (hOwn k hk).1) hit (fun _ => rfl)
    (fun pre W => FInv W0 x v outs C Own PK1 (T.take pre.length) W) (fun s A B hs hk => hs.keeps hk hOwn hCl hxl hvl)
    (fun k hk => by rcases hk with g | g | g; omega; exact hvl k g; omega) (fun _ _ _ _ => trivial) (by simpa using h00)
    (fun y a' W => W0.heap.size + 1 < W.heap.size ∧ a' = { tmps := #[s0, s1, .pointer (some ⟨B2, 0, none⟩), s3, s4, .pointer (some ⟨C, 0, none⟩), y, s7, s8, s9, s10, .func (.func 169) #[] lb, y, s13, s14, s15, s16, s17, s18, s19, s20, s21, s22, s23, s24, s25, s26, s27, s28, s29, s30, s31, s32, s33, s34, s35, s36, s37], defers := [] })
    (fun y a' A B ⟨h1, h2⟩ hk => ⟨Nat.lt_of_lt_of_le h1 hk.size, h2⟩) ?assign ?body ?done
  case assign =>
    intro l y W K hy hlt hK
    unfold encP
    gi_wp2
    exact hK _ _ (Keeps.refl _ _) ⟨hlt, rfl⟩
  case done =>
    intro W _ hI hD
    rw [show T.take xs.length = T by rw [← hT]; simp] at hI
    exact hQ W hI hD
  case body =>
    rintro l pre y post a' W hx hI ⟨hlt, rfl⟩
    have hy : xs[pre.length]? = some y := by rw [hx]; simp
    have hpl : pre.length < xs.length := (List.getElem?_eq_some_iff.1 hy).1
    obtain ⟨v', lv', ks, hL, h1, h3, h4, h5, h6⟩ := hI
    have hkl : ks.length = pre.length := by rw [h1, List.length_take]; omega
    have hlow' : ∀ k, v'.ownBlock = some k → 3 < k := fun k hk => by
      rcases h5 with g | g
      · have := hlow k; by_cases hk3 : k ≤ 3
        · exact absurd (.inl (.inr (.inl (g ▸ hk)))) (this hk3)
        · omega
      · have := g k hk; omega
    have hx3 : 3 < x := by
      by_cases h : x ≤ 3
      · exact absurd (.inl (.inl rfl)) (hlow x h)
      · omega
    have hB2' : ¬ LvT x v' C lv' B2 := by
      rintro (g | g | g | g)
      · exact hB2 (.inl (.inl g))
      · rcases h5 with q | q
        · exact hB2 (.inl (.inr (.inl (q ▸ g))))
        · have := q _ g; omega
      · exact hB2 (.inl (.inr (.inr g)))
      · have := h6 _ g; omega
    have h2W := h4.heap h2 hB2
    have hkW := hk.keeps h4 (hlow 3 (Nat.le_refl 3))
    have hfW := hf.keeps h4 (hlow 2 (by omega))
    have holW : (outs ++ T.take pre.length).length < 1000 := by rw [List.length_append, List.length_take]; omega
    obtain ⟨ap, m, cp, bs, rfl, hTi, hrd, hbl, hm, hpb⟩ := hpc _ _ hy
    have hbW := hrd.keeps h4 (fun b hb => (hpb b hb).2)
    have hbl2 : ∀ b, (Value.slice ap m cp).ownBlock = some b → ¬ LvT x v' C lv' b := fun b hb => by
      have hlb := (hpb b hb).1
      rintro (g | g | g | g)
      · exact (hpb b hb).2 (.inl (.inl g))
      · rcases h5 with q | q
        · exact (hpb b hb).2 (.inl (.inr (.inl (q ▸ g))))
        · have := q _ g; omega
      · exact (hpb b hb).2 (.inl (.inr (.inr g)))
      · have := h6 _ g; omega
    have htk : T.take (pre ++ [Value.slice ap m cp]).length = T.take pre.length ++ [⟨(1 :: bs).toArray⟩] := by
      rw [List.length_append, List.length_singleton, List.take_add_one, hTi]; rfl
    have hds : (⟨bs.toArray⟩ : ByteArray).size = m := by simp [ByteArray.size, hbl]
    refine wpIn_block ?_
    exact file4_wp x B2 C ap m cp bs ⟨bs.toArray⟩ v' (outs ++ T.take pre.length) lv' ks.length (ks.flatMap kidV) ⟨(1 :: bs).toArray⟩ 0 m l _ W (by rintro ⟨a, w, h⟩; exact h) _ _ _ _ _ _ _ _ _ _ _ _ _ _ _ _ _ _ _ _ _ _ _ _ _ _ _ _ _ _ _ _ _ _ _ hL (by omega) h2W hB2' rfl hbW hbl hbl2
      (fun W' k => by
        have := cu_blob x v' (outs ++ T.take pre.length) ⟨bs.toArray⟩ W' (hL.cu.no k) (hkW.keeps k (fun h => h)) (hfW.keeps k (fun h => h)) hx3 hlow' (by rw [hds]; exact hm) holW
        rw [hds] at this
        exact this)
      (fun a' w' hp => by
        have := finv_round (PK := PK1) h1 h3 h4 h5 h6 hlt (fun h hh => ⟨⟨⟨hh, rfl, by show m < 1000000; omega⟩, rfl, rfl⟩, by show m ≤ 1000; omega⟩) hp
        show Keeps _ _ _ ∧ FInv _ _ _ _ _ _ _ _ _
        rw [htk]
        exact this)
      (fun c a a' w h => h)

  def PK2 (k : KidD) : Prop := k.hash.length = 32

set_option maxRecDepth 20000 in
set_option maxHeartbeats 1600000 in
theorem fileR2_wp (x B2 C : Nat) (lb : Array Value) (xs : List Value) (T : List ByteArray) (Own : Nat → Prop) (v : Value) (outs : List ByteArray) (W0 : World) (Q : Exit → Act → World → Prop) (ds : List Deferred) (s0 s1 s3 s4 s5 s6 s8 s9 s10 s11 s12 s13 s14 s15 s16 s17 s18 s19 s20 s21 s22 s23 s24 s26 s27 s28 s29 s30 s31 s32 s33 s34 s35 s36 s37 : Value)
    (hit : IterC Tryd.prog 170 lb encP Own (fun k => CbF x v C k ∨ W0.heap.size ≤ k) xs (fun _ => True) W0)
    (hl : Lv W0 x v outs C (.slice none 0 0) 0 []) (hT : T.length = xs.length) (hol : outs.length + xs.length < 900)
    (hpc : ∀ (i : Nat) (y : Value), xs[i]? = some y → ∃ (ap : Option Addr) (m cp : Nat) (ks : List KidD), y = .slice ap m cp ∧ T[i]? = some ⟨(indexB ks).toArray⟩ ∧ Kids W0 (.slice ap m cp) ks ∧ (∀ k ∈ ks, PK1 k) ∧ ks.length ≤ 6 ∧ 0 < ks.length ∧ (∀ b, (Value.slice ap m cp).ownBlock = some b → b < W0.heap.size ∧ ¬ (CbF x v C b ∨ Own b)))
    (h2 : W0.heap[B2]? = some (.cells #[.pointer (some ⟨x, 0, none⟩)] 142)) (hB2 : ¬ (CbF x v C B2 ∨ Own B2)) (hk : KTab W0) (hf : KFirst W0) (hlow : ∀ k, k ≤ 3 → ¬ (CbF x v C k ∨ Own k)) (hOwn : ∀ k, Own k → k < W0.heap.size ∧ ¬ CbF x v C k)
    (hQ : ∀ W, FInv W0 x v outs C Own PK2 T W → W.heap[W0.heap.size]? = some (.deferred (some [])) → Q .normal { tmps := #[s0, s1, .pointer (some ⟨B2, 0, none⟩), s3, s4, s5, s6, .pointer (some ⟨C, 0, none⟩), s8, s9, s10, s11, s12, s13, s14, s15, s16, s17, s18, s19, s20, s21, s22, s23, s24, .func (.func 170) #[] lb, s26, s27, s28, s29, s30, s31, s32, s33, s34, s35, s36, s37], defers := { target := .collected W0.heap.size, args := #[] } :: ds } W) :
    fileR2.wp Tryd.prog Q { tmps := #[s0, s1, .pointer (some ⟨B2, 0, none⟩), s3, s4, s5, s6, .pointer (some ⟨C, 0, none⟩), s8, s9, s10, s11, s12, s13, s14, s15, s16, s17, s18, s19, s20, s21, s22, s23, s24, .func (.func 170) #[] lb, s26, s27, s28, s29, s30, s31, s32, s33, s34, s35, s36, s37], defers := ds } W0 := by
  conv => arg 2; whnf
  have hxl := heap_lt hl.cu.heap
  have hvl : ∀ k, v.ownBlock = some k → k < W0.heap.size := fun k hk => own_lt hl.cu.own k hk
  have hCl := heap_lt hl.cell
  have hB2l := heap_lt h2
  have h3l : 3 < W0.heap.size := by obtain ⟨_, _, _, hh⟩ := hk; exact heap_lt hh
  have h00 : FInv W0 x v outs C Own PK2 [] W0 := ⟨v, .slice none 0 0, [], by simpa using hl, rfl, by simp, Keeps.refl _ _, .inl rfl, by simp [Value.ownBlock]⟩
  refine wp_range_own (gf := 170) (lb := lb) rfl (fun args w => by kernel_rfl) (encs := encP) (Own := Own) (Cb := CbF x v C) (xs := xs) (S := fun _ => True) (fun k hk => (hOwn k hk).1) hit (fun _ => rfl)
    (fun pre W => FInv W0 x v outs C Own PK2 (T.take pre.length) W) (fun s A B hs hk => hs.keeps hk hOwn hCl hxl hvl)
    (fun k hk => by rcases hk with g | g | g; omega; exact hvl k g; omega) (fun _ _ _ _ => trivial) (by simpa using h00)
    (fun y a' W => W0.heap.size + 1 < W.heap.size ∧ a' = { tmps := #[s0, s1, .pointer (some ⟨B2, 0, none⟩), s3, s4, s5, s6, .pointer (some ⟨C, 0, none⟩), y, s9, s10, s11, s12, s13, s14, s15, s16, s17, s18, s19, s20, s21, s22, s23, s24, .func (.func 170) #[] lb, y, s27, s28, s29, s30, s31, s32, s33, s34, s35, s36, s37], defers := [] })
    (fun y a' A B ⟨h1, h2⟩ hk => ⟨Nat.lt_of_lt_of_le h1 hk.size, h2⟩) ?assign ?body ?done
  case assign =>
    intro l y W K hy hlt hK
    unfold encP
    gi_wp2
    exact hK _ _ (Keeps.refl _ _) ⟨hlt, rfl⟩
  case done =>
    intro W _ hI hD
    rw [show T.take xs.length = T by rw [← hT]; simp] at hI
    exact hQ W hI hD
  case body =>
    rintro l pre y post a' W hx hI ⟨hlt, rfl⟩
    have hy : xs[pre.length]? = some y := by rw [hx]; simp
    have hpl : pre.length < xs.length := (List.getElem?_eq_some_iff.1 hy).1
    obtain ⟨v', lv', ks, hL, h1, h3, h4, h5, h6⟩ := hI
    have hkl : ks.length = pre.length := by rw [h1, List.length_take]; omega
    have hlow' : ∀ k, v'.ownBlock = some k → 3 < k := fun k hk => by
      rcases h5 with g | g
      · have := hlow k; by_cases hk3 : k ≤ 3
        · exact absurd (.inl (.inr (.inl (g ▸ hk)))) (this hk3)
        · omega
      · have := g k hk; omega
    have hx3 : 3 < x := by
      by_cases h : x ≤ 3
      · exact absurd (.inl (.inl rfl)) (hlow x h)
      · omega
    have hB2' : ¬ LvT x v' C lv' B2 := by
      rintro (g | g | g | g)
      · exact hB2 (.inl (.inl g))
      · rcases h5 with q | q
        · exact hB2 (.inl (.inr (.inl (q ▸ g))))
        · have := q _ g; omega
      · exact hB2 (.inl (.inr (.inr g)))
      · have := h6 _ g; omega
    have h2W := h4.heap h2 hB2
    have hkW := hk.keeps h4 (hlow 3 (Nat.le_refl 3))
    have hfW := hf.keeps h4 (hlow 2 (by omega))
    have holW : (outs ++ T.take pre.length).length < 1000 := by rw [List.length_append, List.length_take]; omega
    obtain ⟨ap, m, cp, kk, rfl, hTi, hrd, hkk, hk6, hk0, hpb⟩ := hpc _ _ hy
    have hbW := hrd.keeps h4 (fun b hb => (hpb b hb).2)
    have hbl2 : ∀ b, (Value.slice ap m cp).ownBlock = some b → ¬ (b = x ∨ v'.ownBlock = some b) := fun b hb => by
      have hlb := (hpb b hb).1
      rintro (g | g)
      · exact (hpb b hb).2 (.inl (.inl g))
      · rcases h5 with q | q
        · exact (hpb b hb).2 (.inl (.inr (.inl (q ▸ g))))
        · have := q _ g; omega
    have htk : T.take (pre ++ [Value.slice ap m cp]).length = T.take pre.length ++ [⟨(indexB kk).toArray⟩] := by
      rw [List.length_append, List.length_singleton, List.take_add_one, hTi]; rfl
    refine wpIn_block ?_
    exact file9_wp x B2 C ap m cp v' (outs ++ T.take pre.length) lv' ks.length (ks.flatMap kidV) ⟨(indexB kk).toArray⟩ 1 (sizeTo kk kk.length) l _ W (by rintro ⟨a, w, h⟩; exact h) _ _ _ _ _ _ _ _ _ _ _ _ _ _ _ _ _ _ _ _ _ _ _ _ _ _ _ _ _ _ _ _ _ _ _ hL (by omega) h2W hB2'
      (fun W' k => cu_index x v' (outs ++ T.take pre.length) (.slice ap m cp) kk W' (hL.cu.no k) (hkW.keeps k (fun h => h)) (hfW.keeps k (fun h => h)) hx3 hlow' (hbW.keeps k (fun _ _ h => h)) hbl2 hkk hk6 hk0 holW)
      (fun a' w' hp => by
        have := finv_round (PK := PK2) h1 h3 h4 h5 h6 hlt (fun h hh => hh) hp
        show Keeps _ _ _ ∧ FInv _ _ _ _ _ _ _ _ _
        rw [htk]
        exact this)
      (fun c a a' w h => h)

  
end Go.Proofs.YtpniohbjgpncmaaDoor

namespace Go.Proofs.YtpniohbjgpncmaaDoor
open Go.RowKit
attribute [local go_sem] Oper.semAt_some

def FilePost (w : World) (x : Nat) (v : Value) (outs : List ByteArray) (data : ByteArray) (e : Ending) (w' : World) : Prop := ∃ (k : KidD) (v' : Value), PK1 k ∧ e = .returned (.agg (kidV k).toArray) ∧
  Cu w' x v' (outs ++ [⟨(1 :: bl data).toArray⟩]) ∧ Keeps (fun k => k = x ∨ v.ownBlock = some k) w w' ∧ Fresh w v v'

structure FStart (w : World) (x : Nat) (v : Value) (outs : List ByteArray) (data : ByteArray) (Z : Array Value) (c : Nat) (W5 : World) : Prop where
  lv : Lv W5 x v outs (w.heap.size + 1 + 1) (.slice none 0 0) 0 []
  box : W5.heap[w.heap.size]? = some (.cells #[.pointer (some ⟨x, 0, none⟩)] 142)
  res : W5.heap[w.heap.size + 1]? = some (.cells Z 146)
  q1 : W5.heap[w.heap.size + 1 + 1 + 1 + 1]? = some (.cells #[.slice (some ⟨w.heap.size + 1 + 1 + 1, 0, none⟩) data.size c] 27)
  q2 : W5.heap[w.heap.size + 1 + 1 + 1 + 1 + 1]? = some (.cells #[.int .i64 240] 3)
  rd : Rd W5 1 (.slice (some ⟨w.heap.size + 1 + 1 + 1, 0, none⟩) data.size c) data.size (bytesV (bl data))
  keeps : Keeps No w W5
  size : W5.heap.size = w.heap.size + 6
theorem heap_again {w : World} {k : Nat} {o A : Obj} (h : w.heap[k]? = some o) : (w.alloc A).heap[k]? = some o := (Below.heap_alloc w A k (heap_lt h)).trans h
theorem heap_next {w : World} {n : Nat} (A : Obj) (hn : w.heap.size = n) : (w.alloc A).heap[n]? = some A := by subst hn; exact heap_alloc_new w A
theorem file_start {w W0 W5 : World} {x : Nat} {v : Value} {outs : List ByteArray} {data : ByteArray} {Z : Array Value} (hc : Cu w x v outs)
    (hW0 : ((w.alloc (.cells #[.pointer (some ⟨x, 0, none⟩)] 142)).alloc (.cells Z 146)).alloc (.cells #[.slice none 0 0] 100) = W0)
    (hW5 : (((W0.alloc (.cells (bytesRow data (grownCap W0 data.size 0 5)) 5 ((bytesRow data (grownCap W0 data.size 0 5)).size, (bytesRow data (grownCap W0 data.size 0 5)).size + 1))).alloc
      (.cells #[.slice (some ⟨w.heap.size + 1 + 1 + 1, 0, none⟩) data.size (grownCap W0 data.size 0 5)] 27)).alloc (.cells #[.int .i64 240] 3)).drew = W5) : FStart w x v outs data Z (grownCap W0 data.size 0 5) W5 := by
  have hs0 : W0.heap.size = w.heap.size + 1 + 1 + 1 := by rw [← hW0]; simp
  have hrd := rd_bytesRow W0 data
  have hk0 : Keeps No w W0 := by rw [← hW0]; exact (keeps_alloc2 _ _ _).alloc _
  have c0 : W0.heap[w.heap.size]? = some (.cells #[.pointer (some ⟨x, 0, none⟩)] 142) := by rw [← hW0]; exact heap_again (heap_again (heap_next _ rfl))
  have c1 : W0.heap[w.heap.size + 1]? = some (.cells Z 146) := by rw [← hW0]; exact heap_again (heap_next _ (by simp))
  have c2 : W0.heap[w.heap.size + 1 + 1]? = some (.cells #[.slice none 0 0] 100) := by rw [← hW0]; exact heap_next _ (by simp)
  generalize hcap : grownCap W0 data.size 0 5 = cap at *
  generalize hro : bytesRow data cap = row at *
  have hk5 : Keeps No W0 W5 := by rw [← hW5]; exact (((keeps_alloc _ _).alloc _).alloc _).drew
  have hkr : Keeps No (W0.drew.alloc (.cells row 5 (row.size, row.size + 1))) W5 := by
    rw [← hW5]
    exact ((keeps_alloc (W0.drew.alloc (.cells row 5 (row.size, row.size + 1))) _).alloc _)
  have hxl := heap_lt hc.heap
  have hvl : ∀ k, v.ownBlock = some k → k < w.heap.size := fun k hk => own_lt hc.own k hk
  rw [hs0] at hrd
  refine ⟨⟨(hc.no hk0).no hk5, hk5.heap c2 (fun h => h), World.ownsRow_nil _ _ _ _, by simp [Value.ownBlock], by simp [Value.ownBlock], by simp [Value.ownBlock], fun e => by have := hvl _ e; omega, by omega⟩, hk5.heap c0 (fun h => h), hk5.heap c1 (fun h => h), ?_, ?_, hrd.keeps hkr (fun _ _ h => h), hk0.same hk5, ?_⟩
  · rw [← hW5]; exact heap_again (heap_next _ (by simp [hs0]))
  · rw [← hW5]; exact heap_next _ (by simp [hs0])
  · rw [← hW5]; show (((W0.alloc _).alloc _).alloc _).heap.size = _; simp [hs0]

set_option maxRecDepth 20000 in
set_option maxHeartbeats 1600000 in
theorem file_small (x : Nat) (v : Value) (outs : List ByteArray) (data : ByteArray) (w : World) (hc : Cu w x v outs) (hk : KTab w) (hf : KFirst w) (hx : 3 < x) (hv : ∀ k, v.ownBlock = some k → 3 < k) (hd : data.size ≤ 240) (hol : outs.length < 800) :
    Calls Tryd.prog 121 #[.pointer (some ⟨x, 0, none⟩), .string data] w (FilePost w x v outs data) := by
  have hcr := fun W => run_bytes_of_string (P := Tryd.prog) W 9 27 5 data Tryd.underlying9 Tryd.underlying27 Tryd.underlying5
  have HC := Lib.hid hc; clear hc
  have HK := Lib.hid hk; clear hk
  have HF := Lib.hid hf; clear hf
  have HV := Lib.hid hv; clear hv
  have HD := Lib.hid hd; clear hd
  refine (callsIn_wide (n := 2)).1 (callsIn_of_wp_marks Tryd.func121 rfl trivial ?_)
  refine wpIn_wide.2 ?_
  simp only [Tryd.ntmps121, List.size_toArray, List.length_cons, List.length_nil, Nat.reduceAdd, Nat.reduceSub, Array.replicate_succ, Array.replicate_zero, List.push_toArray, List.append_toArray, List.nil_append, List.cons_append]
  go_wp2_with (first | (go_at_call 147; refine (pieces147 _ _ _ 240 _).mono ?_; rintro e w1 ⟨rfl, rfl⟩))
  clear hcr
  generalize hW0 : World.alloc _ _ = W0
  generalize hW5 : World.drew _ = W5
  have hst := file_start HC.out hW0 hW5
  clear hW5
  generalize hcap : grownCap W0 data.size 0 5 = cap at *
  clear hW0 hcap
  obtain ⟨hlv, hbox, hres, hq1, hq2, hrd, hk05, hs5⟩ := hst
  have hxl := heap_lt HC.out.heap
  have hvl : ∀ k, v.ownBlock = some k → k < w.heap.size := fun k hk => own_lt HC.out.own k hk
  have h23 : ∀ k, k ≤ 3 → ¬ (CbF x v (w.heap.size + 1 + 1) k ∨ False) := fun k hk => by
    rintro ((g | g | g) | g)
    · omega
    · have := HV.out k g; omega
    · omega
    · exact g
  have hout : ∀ k, w.heap.size ≤ k → k ≠ w.heap.size + 1 + 1 → ¬ (CbF x v (w.heap.size + 1 + 1) k ∨ False) := fun k hk hne => by
    rintro ((g | g | g) | g)
    · omega
    · have := hvl k g; omega
    · exact hne g
    · exact g
  refine fileR1_wp x w.heap.size (w.heap.size + 1 + 1) _ [.slice (some ⟨w.heap.size + 1 + 1 + 1, 0, none⟩) data.size cap] [⟨(1 :: bl data).toArray⟩] (fun _ => False) v outs W5 _ [] _ _ _ _ _ _ _ _ _ _ _ _ _ _ _ _ _ _ _ _ _ _ _ _ _ _ _ _ _ _ _ _ _ _ _
    (iter169 _ _ _ 240 HD.out _ _ W5 hq1 hq2 _) hlv rfl (by simp; omega) ?pieces hbox (hout _ (Nat.le_refl _) (by omega)) (HK.out.keeps hk05 (fun h => h)) (HF.out.keeps hk05 (fun h => h)) h23 (fun _ h => h.elim) ?rest
  case pieces =>
    intro i y hy
    cases i with
    | zero =>
      simp at hy
      subst hy
      refine ⟨_, _, _, bl data, rfl, rfl, hrd, by simp [bl_length], HD.out, fun b hb => ?_⟩
      simp [Value.ownBlock] at hb
      subst hb
      exact ⟨by omega, hout _ (by omega) (by omega)⟩
    | succ i => simp at hy
  case rest =>
    rintro W ⟨v', lv', ks, hL, h1, h3, h4, h5, h6⟩ hD
    obtain ⟨k, hk⟩ : ∃ k, ks = [k] := by
      match ks, h1 with
      | [k], _ => exact ⟨k, rfl⟩
    subst hk
    have hpk := h3 k (by simp)
    have hh := hpk.1.leaf.hash
    obtain ⟨ao, cp, hlvf⟩ := own_form hL.row
    subst hlvf
    have hrk : Kids W (.slice ao [k].length cp) [k] := Own.rd hL.row
    obtain ⟨b, o, rfl, hra⟩ := hrk.at (by simpa using hh) 0 (by simp)
    simp only [Nat.zero_mul, Nat.add_zero, List.getElem_cons_zero] at hra
    have hcp : 1 ≤ cp := hrk.len.elim fun _ h => by obtain ⟨c, h1, h2⟩ := h; cases h1; exact h2
    have ec := cell_of_heap hL.cell 0
    simp at ec
    have hrW := h4.heap hres (hout _ (by omega) (by omega))
    have hHd := Lib.hid hD; clear hD
    have HL := Lib.hid hL; clear hL
    have HR := Lib.hid hra; clear hra hrk
    have H4 := Lib.hid h4; clear h4
    have H5 := Lib.hid h5; clear h5
    have HW := Lib.hid hrW; clear hrW
    have HPK := Lib.hid hpk; clear hpk
    have HH := Lib.hid hh; clear hh
    clear h1 h3 h6 hq1 hq2 hrd hbox hres hlv h23
    dsimp only
    obtain ⟨X, hX⟩ : ∃ X, X = kidV k := ⟨_, rfl⟩
    have hx1 : X.length = 36 := by rw [hX]; exact kidV_length _ HH.out
    have hx2 : ∀ u ∈ X, u.oneCell' = true := by rw [hX]; exact kidV_one _
    have hra' := HR.out
    rw [← hX] at hra'
    have HRA := Lib.hid hra'; clear hra'
    have HX := Lib.hid hX; clear hX
    go_wp2
    refine wp_loop_rounds 1 ?_
    rw [rounds_succ]
    go_wp2_with (first | (refine wpList_load_mid rfl 146 _ rfl b o (by rfl) X _ HRA.out Tryd.underlying146 rfl (by rw [hx1]; exact Tryd.size146) ?_) | (refine wpList_store_row rfl 146 _ _ rfl (w.heap.size + 1) X.toArray (by rfl) (by rfl) 146 _ HW.out (by simp only [List.size_toArray]; rw [hx1]; exact Tryd.size146) (by simp only [List.size_toArray]; rw [hx1]; rfl) (all_oneCell_toArray hx2) ?_))
    have hDD := hHd.out
    rw [hs5] at hDD
    have hkr : Keeps (fun k => k = w.heap.size + 1) W (W.setRow (w.heap.size + 1) X.toArray) := (Keeps.refl _ _).setRow _ _ (fun _ => rfl)
    have hD2 := hkr.heap hDD (by omega)
    refine ⟨by simp, .inl ⟨_, _, rfl, run_takeDeferred hD2, ?_⟩⟩
    have hkp : Keeps (fun k => k = w.heap.size + 6) (W.setRow (w.heap.size + 1) X.toArray) ((W.setRow (w.heap.size + 1) X.toArray).putObj (w.heap.size + 6) (.deferred none)) := keeps_putObj _ _ _ rfl
    have hkk : Keeps (fun k => k = w.heap.size + 1 ∨ k = w.heap.size + 6) W _ := hkr.trans hkp (fun _ _ h => .inl h) (fun _ _ h => .inr h)
    have hrow := hkp.heap (setRow_heap _ _ _ X.toArray _ _ HW.out) (by omega)
    refine ⟨_, results_cell_row rfl _ _ (w.heap.size + 1) 146 _ (0, 0) _ (by rfl) hrow Tryd.underlying146 rfl (by simp only [List.size_toArray]; rw [hx1]; exact Tryd.size146), k, v', HPK.out, by rw [HX.out], ?_, ?_, ?_⟩
    · refine HL.out.cu.keeps hkk (fun h => by omega) (fun i hi h => ?_)
      rcases H5.out with g | g
      · have := hvl i (g ▸ hi); omega
      · have := g i hi; omega
    · exact (hk05.trans H4.out (U := fun k => k = x ∨ v.ownBlock = some k ∨ w.heap.size ≤ k) (fun _ _ h => h.elim) (fun i _ h => by
        rcases h with (h | h | h) | h
        · exact .inl h
        · exact .inr (.inl h)
        · exact .inr (.inr (by omega))
        · exact h.elim)).trans hkk (fun i hi h => by
          rcases h with h | h | h
          · exact .inl h
          · exact .inr h
          · omega) (fun i hi h => by omega)
    · rcases H5.out with g | g
      · exact .inl g
      · exact .inr fun k hk => by have := g k hk; omega
end Go.Proofs.YtpniohbjgpncmaaDoor
