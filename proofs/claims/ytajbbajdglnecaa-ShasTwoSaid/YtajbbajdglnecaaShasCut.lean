/- ShasCut: walked. -/
import Derived.Test.YtajbbajdglnecaaLive
namespace Go.Proofs.Ytajbbajdglnecaa
open Go Go.RowKit

def lowA (A : Option Addr) (c k : Nat) : Option Addr := if c = k then A else A.map (·.add k)
theorem run_cut_high {P : Program} (t e : TypeId) (i : TypeInfo) (A : Option Addr) (m c k : Nat) (kd : IntKind) (ht : P.underlying t = some (.slice e)) (hi : P.info? e = some i) (hk : k ≤ c) (w : World) :
    (Instr.slice t (.slice A m c) none (some (.int kd (k : Int))) none).run P w = .ok (.slice A k c) w := by
  have h1 : (0 : Int) ≤ k ∧ (k : Int) ≤ (c : Int) := by omega
  simp [Instr.slice, run_underlying ht, Instr.sliceBounds, Instr.sliceBound, asIntOf, sizeOf, typeInfo, hi, h1, go_sem]
  intro h
  omega
theorem run_cut_low {P : Program} (t e : TypeId) (i : TypeInfo) (A : Option Addr) (m c k : Nat) (kd : IntKind) (ht : P.underlying t = some (.slice e)) (hi : P.info? e = some i) (hs : i.size = 1) (hk : k ≤ m) (w : World) :
    (Instr.slice t (.slice A m c) (some (.int kd (k : Int))) none none).run P w = .ok (.slice (lowA A c k) (m - k) (c - k)) w := by
  have h1 : (0 : Int) ≤ k ∧ (k : Int) ≤ (m : Int) := by omega
  simp [Instr.slice, run_underlying ht, Instr.sliceBounds, Instr.sliceBound, asIntOf, sizeOf, typeInfo, hi, hs, h1, lowA, go_sem]
  intro h
  omega
theorem at_take (l : List Int) (k i : Nat) (h : i < k) : at_ (l.take k) i = at_ l i := by
  unfold at_
  rw [List.getD_eq_getElem?_getD, List.getD_eq_getElem?_getD, List.getElem?_take_of_lt h]
theorem at_drop (l : List Int) (k i : Nat) : at_ (l.drop k) i = at_ l (k + i) := by
  unfold at_
  rw [List.getD_eq_getElem?_getD, List.getD_eq_getElem?_getD, List.getElem?_drop]
theorem BytesAt.take {w : World} {A : Option Addr} {n c : Nat} {l : List Int} (h : BytesAt w (.slice A n c) l) (k : Nat) (hk : k ≤ n) : BytesAt w (.slice A k c) (l.take k) := by
  cases h with
  | none A cap =>
    obtain rfl : k = 0 := by omega
    simp only [List.take_nil]
    exact .none _ _
  | some g o n cap l hl h0 hcap hm hw hc =>
    rcases Nat.eq_zero_or_pos k with hk0 | hk0
    · subst hk0
      simp only [List.take_zero]
      exact .none _ _
    · exact .some g o k c _ (by simp; omega) hk0 (by omega) hm (fun i hi => by rw [at_take _ _ _ hi]; exact hw i (by omega)) (fun i hi => by rw [at_take _ _ _ hi]; exact hc i (by omega))
theorem BytesAt.drop {w : World} {A : Option Addr} {n c : Nat} {l : List Int} (h : BytesAt w (.slice A n c) l) (k : Nat) (hk : k ≤ n) : BytesAt w (.slice (lowA A c k) (n - k) (c - k)) (l.drop k) := by
  cases h with
  | none A cap =>
    simp only [List.drop_nil, Nat.zero_sub]
    exact .none _ _
  | some g o n cap l hl h0 hcap hm hw hc =>
    rcases Nat.eq_zero_or_pos (n - k) with hk0 | hk0
    · rw [hk0, List.drop_eq_nil_of_le (by omega)]
      exact .none _ _
    · have e : lowA (Option.some ⟨g, o, Option.none⟩) c k = Option.some ⟨g, o + k, Option.none⟩ := by
        unfold lowA
        rw [if_neg (by omega)]
        simp [Addr.add]
      rw [e]
      exact .some g (o + k) (n - k) (c - k) _ (by simp; omega) hk0 (by omega) (by omega) (fun i hi => by rw [at_drop]; exact hw _ (by omega)) (fun i hi => by rw [at_drop, show o + k + i = o + (k + i) by omega]; exact hc _ (by omega))
theorem BytesAt.wide {w : World} {A : Option Addr} {n c : Nat} {l : List Int} (h : BytesAt w (.slice A n c) l) (hn : 0 < n) : n ≤ c := by
  cases h with
  | none A cap => omega
  | some g o n cap l hl h0 hcap hm hw hc => exact hcap
theorem BytesAt.far {w : World} {v : Value} {l : List Int} (h : BytesAt w v l) {b : Nat} (hb : w.heap.size ≤ b) : ∀ g o n cap, v = .slice (Option.some ⟨g, o, Option.none⟩) n cap → 0 < n → b ≠ g := by
  intro g o n cap hv hn
  cases h with
  | none A c => injection hv; omega
  | some g' o' n' c' l hl h0 hcap hm hw hc =>
    injection hv with h1 h2 h3
    injection h1 with h1
    injection h1 with h1
    have h9 : g' < w.heap.size := lt_of_cell (hc 0 h0)
    omega
theorem hash_box (w : World) (t : TypeId) (row : Array Value) : Blk ((w.alloc (.cells noughts t)).setRow w.heap.size row) w.heap.size t row ∧ Below w.heap.size w ((w.alloc (.cells noughts t)).setRow w.heap.size row) :=
  ⟨(Blk.new w t noughts).setRow row, below_setRow ((Below.refl _ _).alloc (Nat.le_refl _) _) (Nat.le_refl _) row⟩
theorem hash_load {w w' : World} {g : Nat} {l : List Int} {t : TypeId} (B : Blk w g t (shaRow l)) (h : Grows w.drew w') : (Instr.loadAt 48 (.pointer (some ⟨g, 0, none⟩))).run Try.prog w' = .ok (.agg (shaRow l)) w' := by
  refine run_loadAt_mid w' g 0 48 (shaRow l).toList _ (fun i v hv => ?_) Try.underlying48 rfl (by rw [Array.length_toList, ← shaRow_size]; exact info32)
  have hB := B.drew.below h B.lt
  rw [hB.cell, ← hv]
  rw [Nat.zero_add, Array.getElem?_toList]
set_option maxHeartbeats 4000000 in
theorem cut_any (v : Value) (l : List Int) (x : Nat) (hx16 : x ≤ 65535) (w : World) (hx : BytesAt w v l) : Calls Try.prog 8 #[v, .int .u16 (x : Int)] w (LawEnds w) := by
  obtain ⟨A, c, rfl⟩ := hx.len
  have HX := hide hx
  clear hx
  generalize hM : l.length = M at *
  have HM := hide hM
  clear hM
  by_cases hlong : 20000 < M
  · go_enter Try.func8, Try.ntmps8
    go_wp2_with fail
    with_reducible refine (alive_any w).mono ?_
    rintro e w1 ⟨rfl, L⟩
    have HL1 := hide L
    clear L
    go_wp2_with fail
    with_reducible refine (alive_any w1).mono ?_
    rintro e w2 ⟨rfl, L⟩
    have HL2 := hide (below_trans_grows HL1.out L HL1.out.size)
    clear L HL1
    go_wp2_with fail
    go_ret
    exact ⟨rfl, HL2.out⟩
  · obtain ⟨k, hk⟩ : ∃ k : Nat, (x : Int) % ((M : Int) + 1) = (k : Int) := ⟨x % (M + 1), by rw [Int.natCast_emod]; rfl⟩
    have hkM : k ≤ M := by have := Int.emod_lt_of_pos (x : Int) (b := (M : Int) + 1) (by omega); omega
    have HKM := hide hkM
    have hkc : k ≤ c := by
      rcases Nat.eq_zero_or_pos M with h0 | h0
      · omega
      · have := HX.out.wide h0; omega
    have HKC := hide hkc
    clear hkc
    obtain ⟨i0, hi0, hi1, hi2, hi3⟩ := info_parts info_u8w
    obtain ⟨L0, hL0⟩ : ∃ L : List Int, L = [] := ⟨_, rfl⟩
    have HE := hide hL0
    clear hL0
    have h32 : ∀ l, (Try.prog.info? 48).map (·.size) = some (shaRow l).size := fun l => by rw [← shaRow_size]; exact info32
    have H32 := hide h32
    clear h32
    go_enter Try.func8, Try.ntmps8
    go_wp2_with fail
    with_reducible refine (alive_any w).mono ?_
    rintro e w1 ⟨rfl, L⟩
    have HL1 := hide L
    clear L
    go_wp2_with fail
    with_reducible refine (new_any w1).mono ?_
    rintro e w2 ⟨b, rfl, hb, L, B⟩
    have hwb : w.heap.size ≤ b := by have := HL1.out.size; omega
    have HL2 := hide (below_trans_grows HL1.out L HL1.out.size)
    have HB2 := hide B
    clear L B HL1 hb
    go_wp2_with fail
    have hs0 : SumOf L0 sum0 := by rw [HE.out]; exact sum0_of
    have HS0 := hide hs0
    clear hs0
    with_reducible refine (hash_any b L0 sum0 w2 HS0.out HB2.out (by rw [HE.out]; decide)).mono ?_
    rintro e w3 ⟨rfl, L⟩
    have HL3 := hide (below_trans_grows HL2.out L HL2.out.size)
    have HB3 := hide (HB2.out.below L HB2.out.lt)
    clear L HL2 HB2
    have hcut := run_cut_high (P := Try.prog) 22 5 i0 A M c k .i64 Try.underlying22 hi0 HKC.out
    go_wp2_with (refine wpList_store_row rfl 48 (.tmp 7) (.tmp 26) rfl w3.heap.size (shaRow L0) rfl rfl 48 _ (Blk.new w3 _ noughts) (H32.out _) (shaRow_size _) (sha_oneCell _) ?_)
    obtain ⟨R, L⟩ := hash_box w3 48 (shaRow L0)
    change Calls _ _ _ ((w3.alloc (.cells noughts 48)).setRow w3.heap.size (shaRow L0)) _
    generalize hW : (w3.alloc (.cells noughts 48)).setRow w3.heap.size (shaRow L0) = w4 at *
    have HL4 := hide (below_trans_grows HL3.out L HL3.out.size)
    have HB4 := hide (HB3.out.below L HB3.out.lt)
    have HR4 := hide R
    have hg7 : w.heap.size ≤ w3.heap.size := HL3.out.size
    have hb7 : b < w3.heap.size := HB3.out.lt
    generalize w3.heap.size = g7 at *
    clear L HL3 HB3 hW hcut R
    with_reducible refine (write_any b _ L0 (l.take k) sum0 w4 HS0.out HB4.out ((HX.out.grow HL4.out).take k HKM.out) ((HX.out.take k HKM.out).far hwb) (by rw [HE.out]; simp; omega)).mono ?_
    rintro e w5 ⟨rfl, hg5, s5, hs5, B⟩
    have L := grown_below HL4.out hg5 HL4.out.size hwb
    have HL5 := hide L
    have HB5 := hide B
    have HS5 : Keep (SumOf (l.take k) s5) := ⟨by rw [HE.out] at hs5; exact hs5⟩
    have HR5 := hide (HR4.out.grown hg5 (fun e => by injection e; omega))
    clear L B hg5 hs5 HL4 HB4 HR4 HS0
    have hlk : (l.take k).length ≤ 20000 := by simp; omega
    go_wp2_with fail
    with_reducible refine (hash_any b (l.take k) s5 w5 HS5.out HB5.out (by omega)).mono ?_
    rintro e w6 ⟨rfl, L⟩
    have HL6 := hide (below_trans_grows HL5.out L HL5.out.size)
    have HB6 := hide (HB5.out.below L HB5.out.lt)
    have HR6 := hide (HR5.out.below L HR5.out.lt)
    clear L HL5 HB5 HR5
    go_wp2_with (refine wpList_store_row rfl 48 (.tmp 8) (.tmp 33) rfl w6.heap.size (shaRow (l.take k)) rfl rfl 48 _ (Blk.new w6 _ noughts) (H32.out _) (shaRow_size _) (sha_oneCell _) ?_)
    obtain ⟨R, L⟩ := hash_box w6 48 (shaRow (l.take k))
    change Calls _ _ _ ((w6.alloc (.cells noughts 48)).setRow w6.heap.size (shaRow (l.take k))) _
    generalize hW : (w6.alloc (.cells noughts 48)).setRow w6.heap.size (shaRow (l.take k)) = w7 at *
    have HL7 := hide (below_trans_grows HL6.out L HL6.out.size)
    have HB7 := hide (HB6.out.below L HB6.out.lt)
    have HR7 := hide (HR6.out.below L HR6.out.lt)
    have HT7 := hide R
    have hb8 : b < w6.heap.size := HB6.out.lt
    generalize w6.heap.size = g8 at *
    clear L HL6 HB6 HR6 hW R
    with_reducible refine (hash_any b (l.take k) s5 w7 HS5.out HB7.out (by omega)).mono ?_
    rintro e w8 ⟨rfl, L⟩
    have HL8 := hide (below_trans_grows HL7.out L HL7.out.size)
    have HB8 := hide (HB7.out.below L HB7.out.lt)
    have HR8 := hide (HR7.out.below L HR7.out.lt)
    have HT8 := hide (HT7.out.below L HT7.out.lt)
    clear L HL7 HB7 HR7 HT7
    go_wp2_with (refine wpList_store_row rfl 48 (.tmp 9) (.tmp 35) rfl w8.heap.size (shaRow (l.take k)) rfl rfl 48 _ (Blk.new w8 _ noughts) (H32.out _) (shaRow_size _) (sha_oneCell _) ?_)
    obtain ⟨R, L⟩ := hash_box w8 48 (shaRow (l.take k))
    change Calls _ _ _ ((w8.alloc (.cells noughts 48)).setRow w8.heap.size (shaRow (l.take k))) _
    generalize hW : (w8.alloc (.cells noughts 48)).setRow w8.heap.size (shaRow (l.take k)) = w9 at *
    have HL9 := hide (below_trans_grows HL8.out L HL8.out.size)
    have HB9 := hide (HB8.out.below L HB8.out.lt)
    have HR9 := hide (HR8.out.below L HR8.out.lt)
    have HT9 := hide (HT8.out.below L HT8.out.lt)
    have HU9 := hide R
    have hb9 : b < w8.heap.size := HB8.out.lt
    generalize w8.heap.size = g9 at *
    clear L HL8 HB8 HR8 HT8 hW R
    have hn : BytesAt w9 (.slice none 0 0) [] := .none _ _
    with_reducible refine (write_any b _ (l.take k) [] s5 w9 HS5.out HB9.out hn (fun _ _ _ _ h _ => by injection h with h; cases h) (by simp; omega)).mono ?_
    rintro e w10 ⟨rfl, hg10, s10, hs10, B⟩
    have L := grown_below HL9.out hg10 HL9.out.size hwb
    have HL10 := hide L
    have HB10 := hide B
    have HS10 : Keep (SumOf (l.take k) s10) := ⟨by rw [List.append_nil] at hs10; exact hs10⟩
    have HR10 := hide (HR9.out.grown hg10 (fun e => by injection e; omega))
    have HT10 := hide (HT9.out.grown hg10 (fun e => by injection e; omega))
    have HU10 := hide (HU9.out.grown hg10 (fun e => by injection e; omega))
    clear L B hg10 hs10 HL9 HB9 HR9 HS5 HT9 HU9 hn
    have hcut := run_cut_low (P := Try.prog) 22 5 i0 A M c k .i64 Try.underlying22 hi0 hi2 HKM.out
    go_wp2_with fail
    clear hcut
    with_reducible refine (write_any b _ (l.take k) (l.drop k) s10 w10 HS10.out HB10.out ((HX.out.grow HL10.out).drop k HKM.out) ((HX.out.drop k HKM.out).far hwb) (by have := HM.out; simp only [List.length_drop]; omega)).mono ?_
    rintro e w11 ⟨rfl, hg11, s11, hs11, B⟩
    have L := grown_below HL10.out hg11 HL10.out.size hwb
    have HL11 := hide L
    have HB11 := hide B
    have HS11 : Keep (SumOf l s11) := ⟨by rw [List.take_append_drop] at hs11; exact hs11⟩
    have HR11 := hide (HR10.out.grown hg11 (fun e => by injection e; omega))
    have HT11 := hide (HT10.out.grown hg11 (fun e => by injection e; omega))
    have HU11 := hide (HU10.out.grown hg11 (fun e => by injection e; omega))
    clear L B hg11 hs11 HL10 HB10 HR10 HS10 HT10 HU10
    have hcut := run_cut_high (P := Try.prog) 22 5 i0 A M c k .i64 Try.underlying22 hi0 HKC.out
    have he := sha_eql
    have HBH : Keep (∀ w', Grows w11.drew w' → Blk w' b 44 (sumRow s11).toArray) := ⟨fun w' h => HB11.out.drew.below h HB11.out.lt⟩
    have HN : Keep (∀ w', BytesAt w' (.slice none 0 0) L0) := ⟨fun w' => by rw [HE.out]; exact .none _ _⟩
    have HXT : Keep (∀ w', Grows w11.drew w' → BytesAt w' (.slice A k c) (l.take k)) := ⟨fun w' h => (HX.out.grow (below_trans_grows HL11.out.drew h HL11.out.size)).take k HKM.out⟩
    have HXA : Keep (∀ w', Grows w11.drew w' → BytesAt w' (.slice A M c) l) := ⟨fun w' h => HX.out.grow (below_trans_grows HL11.out.drew h HL11.out.size)⟩
    go_wp2_with fail
    refine wp_region_kinds 24 (by kernel_rfl) (by kernel_rfl) (fun F hF => ?_)
    repeat (first
      | refine kinds_move_is _ rfl (Or.inl rfl) rfl ?_
      | refine kinds_move_is _ rfl (Or.inr rfl) rfl ?_
      | refine kinds_load _ _ rfl rfl rfl (fun w' h => hash_load HR11.out h) ?_
      | refine kinds_on rfl rfl rfl (kinds_load _ _ rfl rfl rfl (fun w' h => hash_load HT11.out h) ?_)
      | refine kinds_on rfl rfl rfl (kinds_load _ _ rfl rfl rfl (fun w' h => hash_load HU11.out h) ?_)
      | refine kinds_off rfl rfl rfl rfl ?_
      | refine kinds_off' rfl rfl rfl ?_
      | ((first | refine kinds_on rfl rfl rfl ?_ | skip)
         apply kinds_is rfl
         · intro ρ wv K hw hf hK
           first | obtain ⟨e0, e1, e2, e3, e4, e5, e6, -⟩ := hf | obtain ⟨e0, e1, e2, e3, e4, e5, -⟩ := hf | obtain ⟨e0, e1, e2, e3, e4, -⟩ := hf | obtain ⟨e0, e1, e2, e3, -⟩ := hf | obtain ⟨e0, e1, e2, -⟩ := hf | obtain ⟨e0, e1, -⟩ := hf | obtain ⟨e0, -⟩ := hf | clear hf
           (try change ρ _ = _ at e0)
           (try change ρ _ = _ at e1)
           (try change ρ _ = _ at e2)
           (try change ρ _ = _ at e3)
           unfold gives
           go_simp
           first
             | (change Calls _ _ _ _ _; (go_at_call 20; (first | with_reducible refine (of_any _ L0 _ (HN.out _) (by rw [HE.out]; decide)).mono ?_ | with_reducible refine (of_any _ (l.take k) _ (HXT.out _ hw) (by omega)).mono ?_ | with_reducible refine (of_any _ l _ (HXA.out _ hw) (by rw [HM.out]; omega)).mono ?_); rintro e w' ⟨rfl, hb⟩; exact ⟨_, rfl, hK _ hb⟩))
             | (change Calls _ _ _ _ _; (go_at_call 18; (with_reducible refine (hash_any b l s11 _ HS11.out (HBH.out _ hw) (by rw [HM.out]; omega)).mono ?_); rintro e w' ⟨rfl, hb⟩; exact ⟨_, rfl, hK _ hb⟩))
             | ((try go_ints); (try rw [if_pos (by omega)]); exact hK _ (Grows.refl _))))
    refine kinds_nil (hF _ rfl rfl (fun ww hg => ?_))
    clear hF F
    simp only [pushSlot, finish, Act.put, List.setIfInBounds_toArray, List.set_cons_succ, List.set_cons_zero]
    simp only [List.drop_succ_cons, List.drop_zero]
    have L := hide (below_trans_grows HL11.out.drew hg HL11.out.size)
    clear hg he hcut
    go_wp2_with fail
    go_ret
    exact ⟨rfl, L.out⟩
end Go.Proofs.Ytajbbajdglnecaa
