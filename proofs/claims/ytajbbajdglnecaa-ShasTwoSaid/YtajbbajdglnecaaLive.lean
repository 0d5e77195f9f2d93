/- alive of the law of sha: some hashes that are fixed. -/
import Derived.Test.YtajbbajdglnecaaText
import Derived.Test.YtajbbajdglnecaaParts
namespace Go.Proofs.Ytajbbajdglnecaa
open Go Go.RowKit

theorem at_all {xs : List Int} (h : xs.all (fun x => decide (0 ≤ x ∧ x ≤ 255)) = true) (k : Nat) : 0 ≤ at_ xs k ∧ at_ xs k ≤ 255 := by
  unfold at_
  rw [List.getD_eq_getElem?_getD]
  rcases Nat.lt_or_ge k xs.length with hk | hk
  · rw [List.getElem?_eq_getElem hk]
    exact of_decide_eq_true (List.all_eq_true.1 h _ (List.getElem_mem hk))
  · rw [List.getElem?_eq_none hk]
    simp
theorem at_row {xs : List Int} {row : Array Value} (h : row = (vals xs).toArray) (k : Nat) (hk : k < xs.length) : row[k]? = some (.int .u8 (at_ xs k)) := by
  subst h
  unfold vals at_
  rw [List.getElem?_toArray, List.getElem?_map, List.getD_eq_getElem?_getD, List.getElem?_eq_getElem hk]
  rfl
def emptyX : List Int := [227, 176, 196, 66, 152, 252, 28, 20, 154, 251, 244, 200, 153, 111, 185, 36, 39, 174, 65, 228, 100, 155, 147, 76, 164, 149, 153, 27, 120, 82, 184, 85]
theorem empty_hx : hx emptyX 32 = ⟨#[101, 51, 98, 48, 99, 52, 52, 50, 57, 56, 102, 99, 49, 99, 49, 52, 57, 97, 102, 98, 102, 52, 99, 56, 57, 57, 54, 102, 98, 57, 50, 52, 50, 55, 97, 101, 52, 49, 101, 52, 54, 52, 57, 98, 57, 51, 52, 99, 97, 52, 57, 53, 57, 57, 49, 98, 55, 56, 53, 50, 98, 56, 53, 53]⟩ := by kernel_rfl
theorem empty_text (w : World) : Calls Try.prog 32 #[.agg (shaRow emptyL)] w fun e w' => e = .returned (.string ⟨#[101, 51, 98, 48, 99, 52, 52, 50, 57, 56, 102, 99, 49, 99, 49, 52, 57, 97, 102, 98, 102, 52, 99, 56, 57, 57, 54, 102, 98, 57, 50, 52, 50, 55, 97, 101, 52, 49, 101, 52, 54, 52, 57, 98, 57, 51, 52, 99, 97, 52, 57, 53, 57, 57, 49, 98, 55, 56, 53, 50, 98, 56, 53, 53]⟩) ∧ Below w.heap.size w w' := by
  have h := text_any (shaRow emptyL) emptyX w (fun k hk => at_row (by rw [empty_sha]; rfl) k hk) (at_all (by decide +kernel))
  rw [empty_hx] at h
  exact h
def abcX : List Int := [186, 120, 22, 191, 143, 1, 207, 234, 65, 65, 64, 222, 93, 174, 34, 35, 176, 3, 97, 163, 150, 23, 122, 156, 180, 16, 255, 97, 242, 0, 21, 173]
theorem abc_hx : hx abcX 32 = ⟨#[98, 97, 55, 56, 49, 54, 98, 102, 56, 102, 48, 49, 99, 102, 101, 97, 52, 49, 52, 49, 52, 48, 100, 101, 53, 100, 97, 101, 50, 50, 50, 51, 98, 48, 48, 51, 54, 49, 97, 51, 57, 54, 49, 55, 55, 97, 57, 99, 98, 52, 49, 48, 102, 102, 54, 49, 102, 50, 48, 48, 49, 53, 97, 100]⟩ := by kernel_rfl
theorem abc_text (w : World) : Calls Try.prog 32 #[.agg (shaRow abcL)] w fun e w' => e = .returned (.string ⟨#[98, 97, 55, 56, 49, 54, 98, 102, 56, 102, 48, 49, 99, 102, 101, 97, 52, 49, 52, 49, 52, 48, 100, 101, 53, 100, 97, 101, 50, 50, 50, 51, 98, 48, 48, 51, 54, 49, 97, 51, 57, 54, 49, 55, 55, 97, 57, 99, 98, 52, 49, 48, 102, 102, 54, 49, 102, 50, 48, 48, 49, 53, 97, 100]⟩) ∧ Below w.heap.size w w' := by
  have h := text_any (shaRow abcL) abcX w (fun k hk => at_row (by rw [abc_sha]; rfl) k hk) (at_all (by decide +kernel))
  rw [abc_hx] at h
  exact h
theorem bytes_new (w : World) (t : TypeId) (l : List Int) (h0 : 0 < l.length) (hm : l.length ≤ 9223372036854775807) (hw : ∀ i, i < l.length → 0 ≤ at_ l i ∧ at_ l i ≤ 255) (cs : Array Value) (hcs : cs = (vals l).toArray) :
    BytesAt (w.alloc (.cells cs t (cs.size, cs.size + 1))) (.slice (some ⟨w.heap.size, 0, none⟩) l.length l.length) l :=
  .some w.heap.size 0 l.length l.length l rfl h0 (Nat.le_refl _) hm hw (fun i hi => by
    rw [Nat.zero_add, World.cell?_alloc_mark w cs t _ i]
    exact at_row hcs i hi)
theorem conv_bytes (w : World) (C : Array Value) (n c : Nat) : (convert 22 22 (.slice (some ⟨w.heap.size, 0, none⟩) n c)).run Try.prog (w.alloc (.cells C 5)) = .ok (.slice (some ⟨w.heap.size, 0, none⟩) n c) (w.alloc (.cells C 5 (C.size, C.size + 1))) :=
  Lib.run_convert_bytes_const w _ _ C n c Try.underlying22 Try.underlying5
set_option maxHeartbeats 2000000 in
theorem alive_any (w : World) : Calls Try.prog 26 #[] w fun e w' => e = .returned (.bool true) ∧ Below w.heap.size w w' := by
  obtain ⟨L3, hL3⟩ : ∃ L : List Int, L = abcL := ⟨_, rfl⟩
  have hT := abc_text
  rw [← hL3] at hT
  have HT := hide hT
  have hlen : L3.length ≤ 1000 := by rw [hL3]; decide
  have HLN := hide hlen
  have HE := hide hL3
  clear hT hlen hL3
  go_enter Try.func26, Try.ntmps26
  go_wp2_with fail
  refine (new_any w).mono ?_
  rintro e w1 ⟨b, rfl, hb, L1, B1⟩
  have HL1 := hide L1
  have HB1 := hide B1
  clear L1 B1
  have hcv := conv_bytes w1
  go_wp2_with fail
  clear hcv
  have hB : BytesAt (w1.alloc (.cells #[.int .u8 97] 5 (1, 2))) (.slice (some ⟨w1.heap.size, 0, none⟩) 1 1) [97] := bytes_new w1 5 [97] (by decide) (by decide) (fun i _ => at_all (by decide) i) _ rfl
  have LB : Below w1.heap.size w1 (w1.alloc (.cells #[.int .u8 97] 5 (1, 2))) := (Below.refl _ _).alloc (Nat.le_refl _) _
  with_reducible refine (write_any b _ [] [97] sum0 _ sum0_of (HB1.out.below LB HB1.out.lt) hB (fun g o n c h _ => by injection h with h; injection h with h; injection h with h; have := HB1.out.lt; omega) (by decide)).mono ?_
  rintro e w2 ⟨rfl, hg2, s2, hs2, B2⟩
  have L2 := grown_below (below_trans_grows HL1.out LB HL1.out.size) hg2 (by have := HL1.out.size; have := LB.size; omega) hb
  have HL2 := hide L2
  have HB2 := hide B2
  have HS2 : Keep (SumOf [97] s2) := ⟨hs2⟩
  clear L2 B2 hs2 hg2 LB hB HL1 HB1
  have hcv := conv_bytes w2
  go_wp2_with fail
  clear hcv
  have hB : BytesAt (w2.alloc (.cells #[.int .u8 98, .int .u8 99] 5 (2, 3))) (.slice (some ⟨w2.heap.size, 0, none⟩) 2 2) [98, 99] := bytes_new w2 5 [98, 99] (by decide) (by decide) (fun i _ => at_all (by decide) i) _ rfl
  have LB : Below w2.heap.size w2 (w2.alloc (.cells #[.int .u8 98, .int .u8 99] 5 (2, 3))) := (Below.refl _ _).alloc (Nat.le_refl _) _
  with_reducible refine (write_any b _ [97] [98, 99] s2 _ HS2.out (HB2.out.below LB HB2.out.lt) hB (fun g o n c h _ => by injection h with h; injection h with h; injection h with h; have := HB2.out.lt; omega) (by decide)).mono ?_
  rintro e w3 ⟨rfl, hg3, s3, hs3, B3⟩
  have LL3 := grown_below (below_trans_grows HL2.out LB HL2.out.size) hg3 (by have := HL2.out.size; have := LB.size; omega) hb
  have HL3 := hide LL3
  have HB3 := hide B3
  have HS3 : Keep (SumOf L3 s3) := ⟨by rw [HE.out]; exact hs3⟩
  clear LL3 B3 hs3 hg3 LB hB HL2 HB2 HS2
  go_wp2_with fail
  have hn : BytesAt w3 (.slice none 0 0) emptyL := .none _ _
  with_reducible refine (of_any _ emptyL w3 hn (by decide)).mono ?_
  clear hn
  rintro e w4 ⟨rfl, L⟩
  have HL4 := hide (below_trans_grows HL3.out L HL3.out.size)
  have HB4 := hide (HB3.out.below L HB3.out.lt)
  clear L HL3 HB3
  go_wp2_with fail
  with_reducible refine (empty_text w4).mono ?_
  rintro e w5 ⟨rfl, L⟩
  have HL5 := hide (below_trans_grows HL4.out L HL4.out.size)
  have HB5 := hide (HB4.out.below L HB4.out.lt)
  clear L HL4 HB4
  have hcv := conv_bytes w5
  go_wp2_with fail
  clear hcv
  have hB : BytesAt (w5.alloc (.cells #[.int .u8 97, .int .u8 98, .int .u8 99] 5 (3, 4))) (.slice (some ⟨w5.heap.size, 0, none⟩) 3 3) L3 := by rw [HE.out]; exact bytes_new w5 5 abcL (by decide) (by decide) (fun i _ => at_all (by decide) i) _ rfl
  have LB : Below w5.heap.size w5 (w5.alloc (.cells #[.int .u8 97, .int .u8 98, .int .u8 99] 5 (3, 4))) := (Below.refl _ _).alloc (Nat.le_refl _) _
  with_reducible refine (of_any _ L3 _ hB (by have := HLN.out; omega)).mono ?_
  rintro e w6 ⟨rfl, L⟩
  have L56 := below_trans_grows LB L LB.size
  have HL6 := hide (below_trans_grows HL5.out L56 HL5.out.size)
  have HB6 := hide (HB5.out.below L56 HB5.out.lt)
  clear L L56 LB hB HL5 HB5
  go_wp2_with fail
  with_reducible refine (HT.out w6).mono ?_
  rintro e w7 ⟨rfl, L⟩
  have HL7 := hide (below_trans_grows HL6.out L HL6.out.size)
  have HB7 := hide (HB6.out.below L HB6.out.lt)
  clear L HL6 HB6
  go_wp2_with fail
  with_reducible refine (hash_any b L3 s3 w7 HS3.out HB7.out (by have := HLN.out; omega)).mono ?_
  rintro e w8 ⟨rfl, L⟩
  have HL8 := hide (below_trans_grows HL7.out L HL7.out.size)
  clear L HL7 HB7
  have hcv := conv_bytes w8
  go_wp2_with fail
  clear hcv
  have hB : BytesAt (w8.alloc (.cells #[.int .u8 97, .int .u8 98, .int .u8 99] 5 (3, 4))) (.slice (some ⟨w8.heap.size, 0, none⟩) 3 3) L3 := by rw [HE.out]; exact bytes_new w8 5 abcL (by decide) (by decide) (fun i _ => at_all (by decide) i) _ rfl
  have LB : Below w8.heap.size w8 (w8.alloc (.cells #[.int .u8 97, .int .u8 98, .int .u8 99] 5 (3, 4))) := (Below.refl _ _).alloc (Nat.le_refl _) _
  with_reducible refine (of_any _ L3 _ hB (by have := HLN.out; omega)).mono ?_
  rintro e w9 ⟨rfl, L⟩
  have L89 := below_trans_grows LB L LB.size
  have HL9 := hide (below_trans_grows HL8.out L89 HL8.out.size)
  clear L L89 LB hB HL8
  have he := sha_eql L3
  go_wp2_with fail
  clear he
  go_ret
  exact ⟨rfl, HL9.out⟩
end Go.Proofs.Ytajbbajdglnecaa
