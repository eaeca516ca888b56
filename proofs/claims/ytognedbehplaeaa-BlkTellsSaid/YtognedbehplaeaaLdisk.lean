/- Law 19's disks: of a start, the program's and the document's. -/
import Derived.Test.YtognedbehplaeaaDrefb
import Derived.Test.YtognedbehplaeaaApp
import Derived.Test.YtognedbehplaeaaBlkc
set_option linter.unusedVariables false
namespace Go.Proofs.Ytognedbehplaeaa
open Go.RowKit

/-- A list so often. -/
def rep (l : List Int) : Nat → List Int
  | 0 => []
  | k + 1 => rep l k ++ l
theorem rep_length (l : List Int) : ∀ k, (rep l k).length = k * l.length
  | 0 => by simp [rep]
  | k + 1 => by rw [rep, List.length_append, rep_length l k, Nat.succ_mul]
theorem rep_byt {l : List Int} (h : Byt l) : ∀ k, Byt (rep l k)
  | 0 => fun x hx => by simp [rep] at hx
  | k + 1 => fun x hx => by
    rcases List.mem_append.1 hx with h1 | h1
    · exact rep_byt h k x h1
    · exact h x h1
/-- What the disk of a start holds. -/
def startG (l : List Int) : Int → Int := layG (fun _ => 0) (rep l 40) 0 2048
theorem rdl_eq {g g' : Int → Int} {N : Nat} (h : ∀ i : Nat, i < N → g i = g' i) : rdl g 0 N = rdl g' 0 N := by
  apply List.ext_getElem?
  intro i
  rcases Nat.lt_or_ge i N with hi | hi
  · rw [rdl_at _ _ hi, rdl_at _ _ hi]
    simp only [Int.zero_add]
    rw [h i hi]
  · rw [List.getElem?_eq_none (by rw [rdl_length]; exact hi), List.getElem?_eq_none (by rw [rdl_length]; exact hi)]
theorem zeros_rdl (N : Nat) : List.replicate N (0 : Int) = rdl (fun _ => 0) 0 N := by
  apply List.ext_getElem?
  intro i
  rcases Nat.lt_or_ge i N with hi | hi
  · rw [rdl_at _ _ hi, List.getElem?_replicate, if_pos hi]
  · rw [List.getElem?_eq_none (by rw [List.length_replicate]; exact hi), List.getElem?_eq_none (by rw [rdl_length]; exact hi)]
theorem start_row (l : List Int) (n : Nat) (hn : l.length = n) (hm : n ≤ 64) : layL (List.replicate 2048 0) (rep l 40) 0 ((40 * n + 511) / 512 * 512) = rdl (startG l) 0 2048 := by
  rw [zeros_rdl, layL_rdl]
  have hl : (rep l 40).length = 40 * n := by rw [rep_length, hn]
  apply rdl_eq
  intro i hi
  unfold startG layG
  generalize rep l 40 = L at *
  by_cases h : (0 : Int) ≤ i ∧ (i : Int) < 0 + (((40 * n + 511) / 512 * 512 : Nat) : Int)
  · rw [if_pos (by simpa using h), if_pos (by omega)]
    simp
  · rw [if_neg (by simpa using h), if_pos (by omega), List.getD, List.getElem?_eq_none (by omega)]
    rfl
theorem DiskAt.kept {w w' : World} {p : Nat} {F G : Nat → Prop} {count : Int} {locked : Bool} {fault reqs flushes : Int} {g : Int → Int} (h : DiskAt w p F count locked fault reqs flushes g) (k : Kept G w w') (hd : ∀ b, F b → ¬ G b) : DiskAt w' p F count locked fault reqs flushes g := by
  obtain ⟨r, es, clock, hp, hc, hFp, hlt, hg, hfl, hP⟩ := h
  have hk : ∀ b, F b → w'.heap[b]? = w.heap[b]? := fun b hb => k.block b (hlt b hb) (hd b hb)
  exact ⟨r, es, clock, (hk p hFp).trans hp, hc, hFp, fun b hb => Nat.lt_of_lt_of_le (hlt b hb) k.size, hg, hfl, hP.stay hk⟩
theorem DiskAt.lt {w : World} {p : Nat} {F : Nat → Prop} {count : Int} {locked : Bool} {fault reqs flushes : Int} {g : Int → Int} (h : DiskAt w p F count locked fault reqs flushes g) : ∀ b, F b → b < w.heap.size := by
  obtain ⟨_, _, _, _, _, _, h, _⟩ := h
  exact h
/-- What law 19's Disk ends in: two disks that hold the same; or none. -/
def LDiskPost (l : List Int) (locked : Bool) (fault : Int) (w : World) (e : Ending) (w' : World) : Prop :=
  ∃ (p : Nat) (F : Nat → Prop) (b : Nat), e = .returned (.tuple #[.pointer (some ⟨p, 0, none⟩), .agg #[.slice (some ⟨b, 0, none⟩) 2048 2048, .bool locked, .int .u64 fault, .int .u64 0, .int .u64 0]]) ∧
    DiskAt w' p F 4 locked fault 0 0 (startG l) ∧ w'.heap[b]? = some (.cells (by8 (rdl (startG l) 0 2048)).toArray 5 (0, 0)) ∧ Kept No w w' ∧ (∀ k, F k → w.heap.size ≤ k) ∧ w.heap.size ≤ b ∧ ¬ F b

set_option maxHeartbeats 2000000 in
set_option maxRecDepth 100000 in
theorem ldisk_yes (locked : Bool) (A : Option Addr) (l : List Int) (n c : Nat) (fault : Int) (nm : ByteArray) (w : World) (hs : Sl w No A (by8 l)) (hb : Byt l) (hn : l.length = n) (hc : n ≤ c) (hf : 0 ≤ fault ∧ fault ≤ 18446744073709551615) (h64 : n ≤ 64) (h100 : nm.size ≤ 100) :
    Calls Try.prog 28 #[.agg #[.bool locked, .slice A n c, .int .u64 fault, .string nm]] w (LDiskPost l locked fault w) := by
  have HS := hid hs
  have HB := hid hb
  have HN := hid hn
  have hs0 := at_alloc (at_new w (.cells #[.bool locked, .slice A n c, .int .u64 fault, .string nm] 67)) (.cells #[.slice none 0 0, .bool false, .int .u64 0, .int .u64 0, .int .u64 0] 72)
  have hy0 := at_new (w.alloc (.cells #[.bool locked, .slice A n c, .int .u64 fault, .string nm] 67)) (.cells #[.slice none 0 0, .bool false, .int .u64 0, .int .u64 0, .int .u64 0] 72)
  rw [World.size_alloc] at hy0
  have HS0 := hid hs0
  have HY0 := hid hy0
  have HK0 := hid (((Kept.refl No w).alloc (.cells #[.bool locked, .slice A n c, .int .u64 fault, .string nm] 67)).alloc (.cells #[.slice none 0 0, .bool false, .int .u64 0, .int .u64 0, .int .u64 0] 72))
  clear hs hb hn hs0 hy0
  go_enter Try.func28, Try.ntmps28
  go_wp2_with fail
  refine (rdnew_calls locked _).mono ?_
  rintro e w1 ⟨b0, rfl, hb0, hB0, hk1⟩
  rw [List.length_replicate]
  have hs1 := at_alloc (at_kept HS0.out hk1 (fun h => h)) (.cells #[.slice (some ⟨b0, 0, none⟩) 2048 2048, .bool locked, .int .u64 0, .int .u64 0, .int .u64 0] 72)
  have hy1 := at_alloc (at_kept HY0.out hk1 (fun h => h)) (.cells #[.slice (some ⟨b0, 0, none⟩) 2048 2048, .bool locked, .int .u64 0, .int .u64 0, .int .u64 0] 72)
  have hz1 := at_alloc hB0 (.cells #[.slice (some ⟨b0, 0, none⟩) 2048 2048, .bool locked, .int .u64 0, .int .u64 0, .int .u64 0] 72)
  have hd1 := at_new w1 (.cells #[.slice (some ⟨b0, 0, none⟩) 2048 2048, .bool locked, .int .u64 0, .int .u64 0, .int .u64 0] 72)
  have hk1' := (HK0.out.trans hk1).alloc (.cells #[.slice (some ⟨b0, 0, none⟩) 2048 2048, .bool locked, .int .u64 0, .int .u64 0, .int .u64 0] 72)
  have hc1 := fun i => cells_of hs1 i
  have HS1 := hid hs1
  have HY1 := hid hy1
  have HZ1 := hid hz1
  have HD1 := hid hd1
  have HK1 := hid hk1'
  have hsz := hk1.size
  have hb0w := lt_of hB0
  rw [World.size_alloc, World.size_alloc] at hsz
  clear hs1 hy1 hz1 hd1 hk1' hb0 hB0 hk1
  go_wp2_with fail
  refine (dnew_calls 4 locked _ (by omega)).mono ?_
  rintro e w2 ⟨p, F, rfl, hD, hk2, hF⟩
  have HS2 := hid (at_kept HS1.out hk2 (fun h => h))
  have HY2 := hid (at_kept HY1.out hk2 (fun h => h))
  have HZ2 := hid (at_kept HZ1.out hk2 (fun h => h))
  have HD2 := hid (at_kept HD1.out hk2 (fun h => h))
  have HK2 := hid (HK1.out.trans hk2)
  have HDI := hid hD
  have HF := hid hF
  have c2 := fun i => cells_of HS2.out i
  have h64' : (n : Int) ≤ 64 := by omega
  have h100' : (nm.size : Int) ≤ 100 := by omega
  clear hc1 hD hk2 hF
  go_wp2_with fail
  have hlt2 := HDI.out.lt
  obtain ⟨ti, hti, hz0, hz1, hz2⟩ := info_parts info_u8
  have HTI := hid hti
  clear hti c2
  go_loopw [7, 8] (fun av iv wr => ∃ (k cA : Nat) (AA : Option Addr), k ≤ 40 ∧ iv = .int .i64 k ∧ av = .slice AA (k * n) cA ∧ wr.ownsRow w2.heap.size 5 1 (.slice AA (k * n) cA) (k * n) (by8 (rep l k)) ∧ Kept No w2 wr) (fun _ iv _ => 40 - (intOf iv).toNat)
  case atStart => exact ⟨0, 0, none, by omega, rfl, by rw [Nat.zero_mul], by rw [Nat.zero_mul]; exact ⟨rfl, .inl ⟨rfl, rfl⟩⟩, Kept.refl _ _⟩
  case round =>
    obtain ⟨k, cA, AA, hk, rfl, rfl, hO, hK⟩ := hrel
    have HO := hid hO
    have HK := hid hK
    have c2 := fun i => cells_of (at_kept HS2.out hK (fun h => h)) i
    have hws := hK.size
    clear hO hK
    by_cases hlt : k < 40
    · have hlt' : (k : Int) < 40 := by omega
      have hkn : k * n ≤ 40 * 64 := Nat.mul_le_mul hk h64
      have HSL := hid (HS.out.no (HK2.out.trans HK.out))
      have HNN : Hid ((by8 l).length = n * 1) := hid (by rw [by8_length, HN.out]; omega)
      go_wp2_with (at_builtin; refine wpList_append_sl _ rfl (.tmp 37) (.tmp 39) _ rfl w2.heap.size 5 ti _ 1 1 Try.underlying49 HTI.out hz0 hz1 hz2 rfl (by omega) (.slice AA (k * n) cA) (k * n) (by8 (rep l k)) rfl HO.out No A n c (by8 l) rfl HSL.out HNN.out (by8_one l) (by unfold maxLen; omega) (by omega) hws ?_; intro v5 w5 hown5 hg5 hat5; obtain ⟨A5, c5, rfl⟩ := own_slice hown5; have HK5 := hid (HK.out.grown hg5 (fun kk hkk => .inr (own_lt HO.out hkk).1)); have HO5 := hid hown5; clear hown5 hg5 hat5)
      go_roundw
      case rel => exact ⟨k + 1, c5, A5, by omega, by go_num, by rw [Nat.succ_mul], by rw [Nat.succ_mul, rep, by8_append]; exact HO5.out, HK5.out⟩
      case measure => simp [intOf]; omega
    · obtain rfl : k = 40 := by omega
      have hall : (rep l 40).length = 40 * n := by rw [rep_length, HN.out]
      have hcap := own_cap HO.out
      have HLT := hid hlt2
      have hF' : ∀ b, F b → w1.heap.size + 1 ≤ b := fun b hb => by have := HF.out b hb; rw [World.size_alloc] at this; exact this
      have hslF : Sl wr F AA (by8 (rep l 40)) := own_sl HO.out (fun b hb hf => by have := HLT.out b hf; omega)
      have hdw := HDI.out.kept HK.out (fun _ _ h => h)
      have hw2 := HK2.out.size
      have h12 : w1.heap.size + 1 ≤ w2.heap.size := by have := lt_of HD2.out; omega
      have HALL := hid hall
      have HF' := hid hF'
      have HS3 := hid (at_kept HS2.out HK.out (fun h => h))
      have HY3 := hid (at_kept HY2.out HK.out (fun h => h))
      have HZ3 := hid (at_kept HZ2.out HK.out (fun h => h))
      have HD3 := hid (at_kept HD2.out HK.out (fun h => h))
      have HSL3 := hid hslF
      have HDW := hid hdw
      clear c2 hlt2 hall hF' hslF hdw
      go_wp2_with fail
      refine (dfill_calls p F 4 locked 0 0 0 AA (rep l 40) (40 * n) cA wr HDW.out HSL3.out (rep_byt HB.out 40) HALL.out (by omega) hcap.1).mono ?_
      rw [show layG (fun _ => 0) (rep l 40) 0 (512 * 4) = startG l from rfl]
      rintro e w4 ⟨F4, rfl, hD4, hC4⟩
      have HN4 : Hid (∀ b, b < w1.heap.size + 1 → ¬ F4 b) := hid (fun b hb hf => by
        rcases hC4.new b hf with h | h
        · have := HF'.out b h; omega
        · omega)
      have hnf : ∀ b, b < w1.heap.size + 1 → ¬ F b := fun b hb hf => by have := HF'.out b hf; omega
      have HS4 := hid (at_kept HS3.out hC4.kept (hnf _ (by omega)))
      have HY4 := hid (at_kept HY3.out hC4.kept (hnf _ (by omega)))
      have HZ4 := hid (at_kept HZ3.out hC4.kept (hnf _ (by omega)))
      have HD4 := hid (at_kept HD3.out hC4.kept (hnf _ (by omega)))
      have HSL4 := hid (HSL3.out.change hC4)
      have HC4 := hid hC4
      have HDI4 := hid hD4
      have c4 := fun i => cells_of HS4.out i
      clear hC4 hD4 hnf
      go_wp2_with fail
      refine (dfail_calls p F4 4 locked 0 0 0 (startG l) fault w4 HDI4.out hf).mono ?_
      rintro e w5 ⟨F5, rfl, hD5, hC5⟩
      have hsz4 := HC4.out.kept.size
      have HN5 : Hid (∀ b, b < w1.heap.size + 1 → ¬ F5 b) := hid (fun b hb hf => by
        rcases hC5.new b hf with h | h
        · exact HN4.out b hb h
        · omega)
      have HS5 := hid (at_kept HS4.out hC5.kept (HN4.out _ (by omega)))
      have HY5 := hid (at_kept HY4.out hC5.kept (HN4.out _ (by omega)))
      have HZ5 := hid (at_kept HZ4.out hC5.kept (HN4.out _ (by omega)))
      have HD5 := hid (at_kept HD4.out hC5.kept (HN4.out _ (by omega)))
      have HSL5 := hid (HSL4.out.change hC5)
      have HC5 := hid (HC4.out.trans hC5)
      have HDI5 := hid hD5
      have c5 := fun i => cells_of HD5.out i
      clear hC5 hD5 c4
      go_wp2_with fail
      refine (rfill_calls (some ⟨b0, 0, none⟩) (List.replicate 2048 0) 2048 2048 locked 0 0 0 AA (rep l 40) (40 * n) cA w5 (Sl.of_block HZ5.out (fun h => h)) (List.length_replicate ..) (HSL5.out.less (F := No) (fun _ h => h.elim)) HALL.out (by omega) (by omega)).mono ?_
      rw [start_row l n HN.out h64]
      rintro e w6 ⟨b6, rfl, hb6, hB6, hk6⟩
      rw [rdl_length]
      have HS6 := hid (at_kept HS5.out hk6 (fun h => h))
      have HY6 := hid (at_kept HY5.out hk6 (fun h => h))
      have HD6 := hid (at_kept HD5.out hk6 (fun h => h))
      have HB6 := hid hB6
      have HK6 := hid hk6
      have cs6 := fun i => cells_of HS6.out i
      have cd6 := fun i => cells_of HD6.out i
      have cy6 := fun i => cells_of HY6.out i
      have fd6 := frozen_of HD6.out
      have fy6 := frozen_of HY6.out
      have n1 : ¬ w.heap.size = w1.heap.size := by omega
      have n2 : ¬ w.heap.size + 1 = w1.heap.size := by omega
      have n3 : ¬ w1.heap.size = w.heap.size := by omega
      have n4 : ¬ w1.heap.size = w.heap.size + 1 := by omega
      clear hB6 hk6 c5
      go_wp2_with fail
      obtain ⟨W7, hW7⟩ : ∃ W7, W7 = ((((((w6.setCell ⟨w1.heap.size, 0, none⟩ (.slice (some ⟨b6, 0, none⟩) 2048 2048)).setCell ⟨w1.heap.size, 1, none⟩ (.bool locked)).setCell ⟨w1.heap.size, 2, none⟩ (.int .u64 0)).setCell ⟨w1.heap.size, 3, none⟩ (.int .u64 0)).setCell ⟨w1.heap.size, 4, none⟩ (.int .u64 0)).setCell ⟨w1.heap.size, 2, none⟩ (.int .u64 fault)) := ⟨_, rfl⟩
      rw [← hW7]
      have hd7 := at_set (set5 HD6.out (.slice (some ⟨b6, 0, none⟩) 2048 2048) (.bool locked) (.int .u64 0) (.int .u64 0) (.int .u64 0)) 2 (.int .u64 fault)
      rw [← hW7] at hd7
      have hd7' : W7.heap[w1.heap.size]? = some (.cells #[.slice (some ⟨b6, 0, none⟩) 2048 2048, .bool locked, .int .u64 fault, .int .u64 0, .int .u64 0] 72 (0, 0)) := hd7
      have hy7 := at_far (far5 HY6.out n2 (.slice (some ⟨b6, 0, none⟩) 2048 2048) (.bool locked) (.int .u64 0) (.int .u64 0) (.int .u64 0)) (p := ⟨w1.heap.size, 2, none⟩) n2 (.int .u64 fault)
      rw [← hW7] at hy7
      have hK7 : Kept (fun b => b = w1.heap.size ∨ b = w.heap.size + 1) w6 W7 := by
        rw [hW7]
        exact ((Kept.refl _ w6).set5 (.inl (.inl rfl)) _ _ _ _ _).set (.inl (.inl rfl)) _
      have HK7 := hid hK7
      have HY7 := hid hy7
      have cd7 := fun i => cells_of hd7' i
      have cy7 := fun i => cells_of hy7 i
      have fd7 := frozen_of hd7'
      have fy7 := frozen_of hy7
      clear hd7 hd7' hy7 hK7 hW7 cs6 cd6 cy6 fd6 fy6
      go_region
      all_goals
        go_wp2
        have hq : ∀ i, ((((((W7.setCell ⟨w.heap.size + 1, 0, none⟩ (.slice (some ⟨b6, 0, none⟩) 2048 2048)).setCell ⟨w.heap.size + 1, 1, none⟩ (.bool locked)).setCell ⟨w.heap.size + 1, 2, none⟩ (.int .u64 fault)).setCell ⟨w.heap.size + 1, 3, none⟩ (.int .u64 0)).setCell ⟨w.heap.size + 1, 4, none⟩ (.int .u64 0)).drew).cell? ⟨w.heap.size + 1, i, none⟩ = (#[.slice (some ⟨b6, 0, none⟩) 2048 2048, .bool locked, .int .u64 fault, .int .u64 0, .int .u64 0] : Array Value)[i]? := fun i => cells_of (w := ((((((W7.setCell ⟨w.heap.size + 1, 0, none⟩ (.slice (some ⟨b6, 0, none⟩) 2048 2048)).setCell ⟨w.heap.size + 1, 1, none⟩ (.bool locked)).setCell ⟨w.heap.size + 1, 2, none⟩ (.int .u64 fault)).setCell ⟨w.heap.size + 1, 3, none⟩ (.int .u64 0)).setCell ⟨w.heap.size + 1, 4, none⟩ (.int .u64 0)).drew)) (set5 HY7.out (.slice (some ⟨b6, 0, none⟩) 2048 2048) (.bool locked) (.int .u64 fault) (.int .u64 0) (.int .u64 0)) i
        refine bodyPost_ret (v := .tuple #[.pointer (some ⟨p, 0, none⟩), .agg #[.slice (some ⟨b6, 0, none⟩) 2048 2048, .bool locked, .int .u64 fault, .int .u64 0, .int .u64 0]]) (by simp [results, Try.results28, go_sem, hq]) (by with_reducible rfl) ?_
        have KA := (HK7.out.set5 (g := w.heap.size + 1) (.inl (.inr rfl)) (.slice (some ⟨b6, 0, none⟩) 2048 2048) (.bool locked) (.int .u64 fault) (.int .u64 0) (.int .u64 0)).drew
        have hs5 := HC5.out.kept.size
        have hs6 := HK6.out.size
        have hb6' := hb6
        have KW : Kept No w wr := HK2.out.trans HK.out
        have K5 : Kept No w w5 := KW.then_ HC5.out.kept (fun b hb => .inr (by have := HF'.out b hb; omega))
        have KF := (K5.trans HK6.out).then_ KA (fun b hb => .inr (by rcases hb with rfl | rfl <;> omega))
        have hD6 := HDI5.out.kept HK6.out (fun _ _ h => h)
        have hDF := hD6.kept KA (fun b hb hg => by rcases hg with rfl | rfl <;> exact HN5.out _ (by omega) hb)
        have hlt5 := HDI5.out.lt
        refine ⟨p, F5, b6, rfl, hDF, (KA.block b6 (lt_of HB6.out) (by rintro (rfl | rfl) <;> omega)).trans HB6.out, KF, fun b hb => ?_, by omega, fun hb => by have := hlt5 _ hb; omega⟩
        rcases HC5.out.new b hb with h | h
        · have := HF'.out b h; omega
        · omega
end Go.Proofs.Ytognedbehplaeaa
