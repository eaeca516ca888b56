/- A disk's sectors laid: what stands on it at the beginning. -/
import Derived.Test.YtognedbehplaeaaBlka
import Derived.Test.YtognedbehplaeaaPagesb
import Derived.Deep.RegionWith
set_option linter.unusedVariables false
namespace Go.Proofs.Ytognedbehplaeaa
open Go.RowKit

/-- Bytes laid over what was there, 0 behind them up to a length. -/
def layG (g : Int → Int) (l : List Int) (at_ m : Int) : Int → Int := fun o => if at_ ≤ o ∧ o < at_ + m then l.getD (o - at_).toNat 0 else g o
theorem layG_byte {g : Int → Int} {l : List Int} (at_ m : Int) (hg : ∀ o, 0 ≤ g o ∧ g o ≤ 255) (hb : Byt l) : ∀ o, 0 ≤ layG g l at_ m o ∧ layG g l at_ m o ≤ 255 := fun o => by
  unfold layG
  split
  · exact hb.at_ _
  · exact hg o
theorem layG_nil (g : Int → Int) (l : List Int) (at_ : Int) : layG g l at_ 0 = g := by
  funext o
  exact if_neg (by omega)
theorem zero_sector : Try.zeroCells209 = Array.replicate 512 (.int .u8 0) := by kernel_rfl
theorem row_cells (N : Nat) (q : List Int) (hq : q.length ≤ N) :
    (((Array.replicate N (Value.int .u8 0)).toList.take 0 ++ by8 q ++ (Array.replicate N (Value.int .u8 0)).toList.drop (0 + (by8 q).length)).toArray).size = N ∧
    ∀ i : Nat, i < N → (((Array.replicate N (Value.int .u8 0)).toList.take 0 ++ by8 q ++ (Array.replicate N (Value.int .u8 0)).toList.drop (0 + (by8 q).length)).toArray)[i]? = some (.int .u8 (q.getD i 0)) := by
  rw [by8_length]
  refine ⟨by simp [by8_length]; omega, fun i hi => ?_⟩
  rw [List.getElem?_toArray, List.take_zero, List.nil_append]
  rcases Nat.lt_or_ge i q.length with h | h
  · rw [List.getElem?_append_left (by rw [by8_length]; exact h), by8_at h]
  · rw [List.getElem?_append_right (by rw [by8_length]; exact h), by8_length]
    have e : q.getD i 0 = 0 := by rw [List.getD, List.getElem?_eq_none h]; rfl
    rw [e, Array.toList_replicate, List.drop_replicate, List.getElem?_replicate, if_pos (by omega)]
theorem sect_cells (q : List Int) (hq : q.length ≤ 512) :
    ((Try.zeroCells209.toList.take 0 ++ by8 q ++ Try.zeroCells209.toList.drop (0 + (by8 q).length)).toArray).size = 512 ∧
    ∀ i : Nat, i < 512 → ((Try.zeroCells209.toList.take 0 ++ by8 q ++ Try.zeroCells209.toList.drop (0 + (by8 q).length)).toArray)[i]? = some (.int .u8 (q.getD i 0)) := by
  rw [zero_sector]
  exact row_cells 512 q hq
theorem part_getD (l : List Int) (k i : Nat) (hi : i < 512) : ((l.drop k).take 512).getD i 0 = l.getD (k + i) 0 := by
  rw [getD_take hi]
  simp [List.getD, List.getElem?_drop]

/-- What a call that changes a disk ends in. -/
def DPost (p : Nat) (F : Nat → Prop) (count : Int) (locked : Bool) (fault reqs flushes : Int) (v : Value) (g : Int → Int) (w : World) (e : Ending) (w' : World) : Prop := ∃ F', e = .returned v ∧ DiskAt w' p F' count locked fault reqs flushes g ∧ Change F F' w w'

set_option maxRecDepth 100000 in
theorem dfail_calls (p : Nat) (F : Nat → Prop) (count : Int) (locked : Bool) (fault reqs flushes : Int) (g : Int → Int) (f : Int) (w : World) (h : DiskAt w p F count locked fault reqs flushes g) (hf : 0 ≤ f ∧ f ≤ 18446744073709551615) :
    Calls Try.prog 86 #[.pointer (some ⟨p, 0, none⟩), .int .u64 f] w (DPost p F count locked f reqs flushes (.tuple #[]) g w) := by
  obtain ⟨r, es, clock, hp, hc, hFp, hlt, hg, hfl, hP⟩ := h
  have hc0 := fun i => cells_of hp i
  have hfz := frozen_of hp
  have hpr := ne_map hp hP.map
  refine calls_to (W := w.setCell ⟨p, 3, none⟩ (.int .u64 f)) ?_ ⟨F, rfl, ⟨r, es, clock, at_set hp 3 _, hc, hFp, fun b hb => by simpa [World.setCell] using hlt b hb, hg, hf, ?_⟩, (Kept.refl F w).set (.inl hFp) _, fun _ h => h, fun _ h => .inl h⟩
  · clear hp hP hlt hg hFp hpr
    go_enter Try.func86, Try.ntmps86
    go_wp2
    go_returns
    exact ⟨rfl, rfl⟩
  · refine ⟨at_far hP.map hpr.symm _, hP.inF, fun e he => ?_, hP.apart, hP.rest⟩
    obtain ⟨k, b, cs, h1, h2, h3, h4, h5, h6, h7, h8, h9⟩ := hP.entry e he
    exact ⟨k, b, cs, h1, h2, h3, h4, h5, h6, at_far h7 (ne_of h7 hp (by decide)) _, h8, h9⟩

set_option maxHeartbeats 1000000 in
set_option maxRecDepth 100000 in
theorem dfill_calls (p : Nat) (F : Nat → Prop) (count : Int) (locked : Bool) (fault reqs flushes : Int) (A : Option Addr) (l : List Int) (n c : Nat) (w : World) (h : DiskAt w p F count locked fault reqs flushes (fun _ => 0)) (hs : Sl w F A (by8 l)) (hb : Byt l) (hn : l.length = n) (hn1 : n ≤ 1000000) (hc : n ≤ c) :
    Calls Try.prog 85 #[.pointer (some ⟨p, 0, none⟩), .slice A n c] w (DPost p F count locked fault reqs flushes (.tuple #[]) (layG (fun _ => 0) l 0 (512 * count)) w) := by
  obtain ⟨c0, c1⟩ : 1 ≤ count ∧ count ≤ 65536 := by obtain ⟨r, es, clock, _, h, _⟩ := h; exact h
  have HD := hid h
  have HS := hid hs
  have HN := hid hn
  have HB := hid hb
  clear h hs hn hb
  go_enter Try.func85, Try.ntmps85
  go_wp2_with fail
  go_loopw [4] (fun iv wr => ∃ (k : Nat) (Fk : Nat → Prop), (k : Int) ≤ count ∧ iv = .int .u64 k ∧ Hid (DiskAt wr p Fk count locked fault reqs flushes (layG (fun _ => 0) l 0 (512 * k))) ∧ Hid (Change F Fk w wr)) (fun iv _ => (count - intOf iv).toNat)
  case atStart => exact ⟨0, F, by omega, rfl, hid (by rw [show (512 * ((0 : Nat) : Int)) = 0 from rfl, layG_nil]; exact HD.out), hid (Change.refl F w)⟩
  case round =>
    obtain ⟨k, Fk, hk, rfl, HDk, HCk⟩ := hrel
    obtain ⟨r, es, clock, hp, -, hFp, hlt, hg, hfl, hP⟩ := HDk.out
    have hc0 := fun i => cells_of hp i
    have hwn : IntKind.u64.wrap (n : Int) = n := by rw [IntKind.wrap_u64]; omega
    obtain ⟨m, hm⟩ : ∃ m, m = (k : Int) * 512 := ⟨_, rfl⟩
    have hwk : IntKind.u64.wrap ((k : Int) * 512) = m := by rw [IntKind.wrap_u64, hm]; omega
    by_cases h1 : (k : Int) < count
    · by_cases h2 : m < (n : Int)
      · obtain ⟨b, o, rfl, hFb, hbl, hcell⟩ : ∃ b o, A = some ⟨b, o, none⟩ ∧ ¬ F b ∧ b < w.heap.size ∧ ∀ j u, (by8 l)[j]? = some u → w.cell? ⟨b, o + j, none⟩ = some u := by
          rcases HS.out with h | ⟨b, o, h3, h4, h5, h6⟩
          · have hl0 : l.length = 0 := by simpa [by8] using congrArg List.length h
            have := HN.out
            omega
          · exact ⟨b, o, h3, h4, h5, h6⟩
        obtain ⟨mm, hmm⟩ : ∃ mm : Nat, mm = 512 * k := ⟨_, rfl⟩
        have hmn : m = (mm : Int) := by omega
        have hq : ((l.drop mm).take 512).length ≤ 512 := by rw [List.length_take]; omega
        obtain ⟨Z, hZ⟩ : ∃ Z, Z = (Try.zeroCells209.toList.take 0 ++ by8 ((l.drop mm).take 512) ++ Try.zeroCells209.toList.drop (0 + (by8 ((l.drop mm).take 512)).length)).toArray := ⟨_, rfl⟩
        have hZc := sect_cells ((l.drop mm).take 512) hq
        rw [← hZ] at hZc
        have hrun1 := run_copy_row (P := Try.prog) ((wr.alloc (.cells Try.zeroCells209 209)).drew) 49 49 3 5 wr.heap.size 0 512 512 ⟨b, o + mm, none⟩ (n - mm) (c - mm) Try.zeroCells209 209 (by8 ((l.drop mm).take 512)) Try.underlying49 (by kernel_rfl) (at_new wr _)
          (by rw [by8_length, List.length_take, List.length_drop, HN.out]; exact Nat.min_comm _ _)
          (by
            intro j v hv
            have e : (⟨b, o + mm, none⟩ : Addr).add j = ⟨b, o + mm + j, none⟩ := by unfold Addr.add; split <;> simp_all
            rw [e]
            have hj : j < 512 := by
              have := (List.getElem?_eq_some_iff.1 hv).1
              rw [by8_length, List.length_take] at this
              omega
            have hv2 : (by8 l)[mm + j]? = some v := by
              unfold by8 at hv ⊢
              rw [List.map_take, List.map_drop, List.getElem?_take_of_lt hj, List.getElem?_drop] at hv
              exact hv
            obtain ⟨b', o', h3, -, -, h4⟩ := ((HS.out.kept HCk.out.kept (fun _ h => h)).kept ((Kept.refl F wr).alloc _).drew (fun _ h => h)).at_ hv2
            obtain ⟨rfl, rfl⟩ : b = b' ∧ o = o' := by simpa using h3
            rw [← Nat.add_assoc] at h4
            exact h4)
          (by rw [by8_length]; have := zero_sector; rw [this]; simp; omega)
          (fun v hv => by8_one _ v hv)
        rw [← hZ, alloc_setRow_drew] at hrun1
        obtain ⟨es', clock', hrun2, hP2⟩ := (hP.stay (w' := wr.drew) (fun _ _ => rfl)).lay (P := Try.prog) (t := 204) (kt := 23) (et := 207) Try.underlying204 Try.underlying23 hlt hZc.1 (x := (k : Int)) (by omega) (by omega) (g' := layG (fun _ => 0) l 0 (512 * ((k + 1 : Nat) : Int)))
          (by
            intro i hi
            rw [hZc.2 i hi, part_getD _ _ _ hi]
            unfold layG
            rw [if_pos (by omega)]
            congr 3
            omega)
          (by
            intro k' i hne hi
            unfold layG
            by_cases h3 : 0 ≤ k' * ((512 : Nat) : Int) + i ∧ k' * ((512 : Nat) : Int) + i < 0 + 512 * (k : Int)
            · rw [if_pos h3, if_pos (by omega)]
            · rw [if_neg h3, if_neg (by omega)])
        have hrun3 : (Instr.mapUpdate 204 (.map (some r)) (.int .u64 k) (.pointer (some ⟨wr.heap.size, 0, none⟩))).run Try.prog ((wr.alloc (.cells Z 209)).drew) = .ok () (put ((wr.alloc (.cells Z 209)).drew) r (.map es' clock')) := hrun2
        have hp2 := (put_other ((wr.alloc (.cells Z 209)).drew) r p (.map es' clock') (ne_map hp hP.map)).trans (at_alloc hp _)
        have hfin : DiskAt (put ((wr.alloc (.cells Z 209)).drew) r (.map es' clock')) p (Or2 Fk (· = wr.heap.size)) count locked fault reqs flushes (layG (fun _ => 0) l 0 (512 * ((k + 1 : Nat) : Int))) :=
          ⟨r, es', clock', hp2, ⟨c0, c1⟩, .inl hFp, fun b hb => by
            have e : (put ((wr.alloc (.cells Z 209)).drew) r (.map es' clock')).heap.size = wr.heap.size + 1 := by rw [put_size]; exact World.size_alloc _ _
            rw [e]
            rcases hb with hb | hb
            · have := hlt b hb; omega
            · have : b = wr.heap.size := hb; omega, layG_byte _ _ (fun _ => ⟨Int.le_refl 0, show (0 : Int) ≤ 255 by decide⟩) HB.out, hfl, hP2⟩
        have hch : Change Fk (Or2 Fk (· = wr.heap.size)) wr (put ((wr.alloc (.cells Z 209)).drew) r (.map es' clock')) :=
          ⟨((Kept.refl Fk wr).alloc _).drew.put (.inl hP.inF) _, fun b hb => .inl hb, fun b hb => hb.imp id (fun h => by have : b = wr.heap.size := h; omega)⟩
        have HFIN := hid hfin
        have HCH := hid (HCk.out.trans hch)
        have hc1 : ∀ i, ((wr.alloc (.cells Z 209)).drew).cell? ⟨p, i, none⟩ = (#[.int .u64 count, .bool locked, .map (some r), .int .u64 fault, .int .u64 reqs, .int .u64 flushes] : Array Value)[i]? := fun i => cells_of (w := (wr.alloc (.cells Z 209)).drew) (at_alloc hp _) i
        have hpl := lt_of hp
        have hmc : mm ≤ n := by omega
        have hmc2 : mm ≤ c := by omega
        have hk1 : (k : Int) + 1 ≤ count := by omega
        rw [hmn] at hwk h2
        clear hrun2 hm hmn hq hZ hZc hp hP hP2 hp2 hfin hch hFp hlt hg hfl hcell hFb hbl hmm
        go_wp2_with fail
        go_region
        all_goals
          go_wp2
          go_roundw
          case rel => exact ⟨k + 1, Or2 Fk (· = wr.heap.size), by omega, by go_num, HFIN, HCH⟩
          case measure => simp [intOf]; omega
      · have e : layG (fun _ => 0) l 0 (512 * (k : Int)) = layG (fun _ => 0) l 0 (512 * count) := by
          have hN := HN.out
          funext o
          unfold layG
          by_cases h3 : 0 ≤ o ∧ o < 0 + 512 * (k : Int)
          · rw [if_pos h3, if_pos (by omega)]
          · rw [if_neg h3]
            split
            · rw [List.getD, List.getElem?_eq_none (by omega)]; rfl
            · rfl
        have HP : Hid (DPost p F count locked fault reqs flushes (.tuple #[]) (layG (fun _ => 0) l 0 (512 * count)) w (.returned (.tuple #[])) wr) := hid ⟨Fk, rfl, e ▸ HDk.out, HCk.out⟩
        clear e hm hp hP hFp hlt hg hfl
        go_wp2
        go_returns
        exact HP.out
    · have hkc : (k : Int) = count := by omega
      have HP : Hid (DPost p F count locked fault reqs flushes (.tuple #[]) (layG (fun _ => 0) l 0 (512 * count)) w (.returned (.tuple #[])) wr) := hid ⟨Fk, rfl, hkc ▸ HDk.out, HCk.out⟩
      clear hkc hm hp hP hFp hlt hg hfl
      go_wp2
      go_returns
      exact HP.out
end Go.Proofs.Ytognedbehplaeaa
