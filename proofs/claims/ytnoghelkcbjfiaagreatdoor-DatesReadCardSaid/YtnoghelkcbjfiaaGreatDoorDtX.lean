/- Walks over chapter 07's reference: Read, Of, Long; no statement of the seat is proved here. -/
import Derived.Test.YtnoghelkcbjfiaaGreatDoorDtV
import Derived.Test.YtnoghelkcbjfiaaGreatDoorDtW
namespace Go.Proofs.YtnoghelkcbjfiaaGreatDoor
open Go.RowKit

/-- may, at the form of the text. -/
theorem rmay_is (s : ByteArray) (hs : s.size ≤ 549755813888) (hk : (spl s.data.toList).date = true ∨ (spl s.data.toList).time = true) (w : World) :
    Calls Tryz.prog 17 #[.string s, formV (spl s.data.toList)] w fun e w' => e = .returned (.bool (mayL s.data.toList)) ∧ Below w.heap.size w w' := by
  have hpn : ∀ i, partN s.data.toList i ≤ 549755813888 := fun i => by
    unfold partN; split
    · have := runD_le s.data.toList (i + 1); rw [size_list] at this; omega
    · omega
  rcases spl_cases s.data.toList with ⟨_, _, h⟩ | ⟨_, hC, h⟩ | ⟨hD, _, h⟩ | ⟨hD, hM, hC, h⟩
  · rw [h] at hk; simp at hk
  · have := rmay_time s hs hC _ h (((spl s.data.toList).long : Nat) : Int) w
    rw [h] at this ⊢
    exact this
  · have := rmay_day s hs hD h w
    rw [h]
    exact this
  · have h19 : 19 + pN (partN s.data.toList 19) ≤ 549755813908 := by
      have := hpn 19
      unfold pN; split <;> omega
    rcases zoneN_cases s.data.toList (19 + pN (partN s.data.toList 19)) with hz | ⟨hz, _⟩ | ⟨hz, _, hZ⟩
    · rw [hz] at h
      have := rmay_both s hs hD hC _ _ (hpn 19) h rfl (((spl s.data.toList).long : Nat) : Int) w
      rw [h] at this ⊢
      exact this
    · rw [hz] at h
      have := rmay_z s hs hD hC _ _ (hpn 19) h rfl (((spl s.data.toList).zAt : Nat) : Int) (((spl s.data.toList).long : Nat) : Int) (by omega) (by rw [h]; simp [Parts.long, Parts.zAt]) (by rw [h]; simp only [Parts.zAt]; omega) w
      rw [h] at this ⊢
      exact this
    · rw [hz] at h
      have := rmay_zone s hs hD hC _ _ (hpn 19) h rfl hZ (((spl s.data.toList).zAt : Nat) : Int) (((spl s.data.toList).long : Nat) : Int) (by rw [h]; simp only [Parts.zAt]) (by rw [h]; simp [Parts.long, Parts.zAt]) w
      rw [h] at this ⊢
      exact this

theorem rform_v (s : ByteArray) (hs : s.size ≤ 549755813888) {K T Z E : Int} (hV : Hid (formV (spl s.data.toList) = .agg #[.int .i64 K, .int .i64 T, .int .i64 Z, .int .i64 E])) (w : World) :
    Calls Tryz.prog 16 #[.string s] w fun e w' => e = .returned (.agg #[.int .i64 K, .int .i64 T, .int .i64 Z, .int .i64 E]) ∧ Below w.heap.size w w' := by
  have := rform_is s hs w
  rwa [hV.out] at this
theorem rmay_v (s : ByteArray) (hs : s.size ≤ 549755813888) (hk : Hid ((spl s.data.toList).date = true ∨ (spl s.data.toList).time = true)) {K T Z E : Int} (hV : Hid (formV (spl s.data.toList) = .agg #[.int .i64 K, .int .i64 T, .int .i64 Z, .int .i64 E])) {b : Bool} (hb : Hid (mayL s.data.toList = b)) (w : World) :
    Calls Tryz.prog 17 #[.string s, .agg #[.int .i64 K, .int .i64 T, .int .i64 Z, .int .i64 E]] w fun e w' => e = .returned (.bool b) ∧ Below w.heap.size w w' := by
  have := rmay_is s hs hk.out w
  rwa [hV.out, hb.out] at this

theorem ret_sc {a : ByteArray} {l : List UInt8} {c : Int} {r : List UInt8 × Int} (h : r = (l, c)) (h' : a.data.toList = l) : Ending.returned (.tuple #[.string a, .int .i64 c]) = .returned (.tuple #[.string ⟨r.1.toArray⟩, .int .i64 r.2]) := by
  subst h; rw [str_is h']

set_option maxHeartbeats 1000000 in
theorem rread_syn (s : ByteArray) (hs : s.size ≤ 549755813888) {K T Z E : Int} (hV : Hid (formV (spl s.data.toList) = .agg #[.int .i64 K, .int .i64 T, .int .i64 Z, .int .i64 E])) (hc : K = 0 ∨ (E != (s.size : Int)) = true) (hR : Hid (readD s.data.toList = ([], 3))) (w : World) :
    Calls Tryz.prog 6 #[.string s] w fun e w' => e = .returned (.tuple #[.string ⟨(readD s.data.toList).1.toArray⟩, .int .i64 (readD s.data.toList).2]) ∧ Below w.heap.size w w' := by
  by_cases h0 : K = 0
  · have b0 : (K == 0) = true := by simp [h0]
    clear hc
    go_enter Tryz.func6, Tryz.ntmps6
    go_wp2_with (go_at_call 16; (with_reducible refine (rform_v s hs hV _).mono ?_); rintro e w1 ⟨rfl, hb1⟩; have hz1 := hb1.size)
    go_ret2
    exact ⟨ret_sc hR.out rfl, hb1.alloc hz1 _⟩
  · have b0 : (K == 0) = false := by simp [h0]
    have b1 : (E != (s.size : Int)) = true := hc.resolve_left h0
    clear hc h0
    go_enter Tryz.func6, Tryz.ntmps6
    go_wp2_with (go_at_call 16; (with_reducible refine (rform_v s hs hV _).mono ?_); rintro e w1 ⟨rfl, hb1⟩; have hz1 := hb1.size)
    go_ret2
    exact ⟨ret_sc hR.out rfl, hb1.alloc hz1 _⟩

set_option maxHeartbeats 1000000 in
theorem rread_bad (s : ByteArray) (hs : s.size ≤ 549755813888) (hk : Hid ((spl s.data.toList).date = true ∨ (spl s.data.toList).time = true)) {K T Z E : Int} (hV : Hid (formV (spl s.data.toList) = .agg #[.int .i64 K, .int .i64 T, .int .i64 Z, .int .i64 E])) (b0 : (K == 0) = false) (b1 : (E != (s.size : Int)) = false) (hb : Hid (mayL s.data.toList = false)) (hR : Hid (readD s.data.toList = ([], 9))) (w : World) :
    Calls Tryz.prog 6 #[.string s] w fun e w' => e = .returned (.tuple #[.string ⟨(readD s.data.toList).1.toArray⟩, .int .i64 (readD s.data.toList).2]) ∧ Below w.heap.size w w' := by
  go_enter Tryz.func6, Tryz.ntmps6
  go_wp2_with (first
    | (go_at_call 16; (with_reducible refine (rform_v s hs hV _).mono ?_); rintro e w1 ⟨rfl, hb1⟩; have hz1 := hb1.size)
    | (go_at_call 17; (with_reducible refine (rmay_v s hs hk hV hb _).mono ?_); rintro e w2 ⟨rfl, hb2⟩; have HF2 : Hid (w2.heap[w1.heap.size]? = some (.cells #[.int .i64 K, .int .i64 T, .int .i64 Z, .int .i64 E] 37 (0, 0))) := blk_later (heap_new1 w1 _) hb2 (by simp); have q0 : w2.cell? ⟨w1.heap.size, 0, none⟩ = some (.int .i64 K) := blk_cell HF2.out 0; have q1 : w2.cell? ⟨w1.heap.size, 1, none⟩ = some (.int .i64 T) := blk_cell HF2.out 1; have q2 : w2.cell? ⟨w1.heap.size, 2, none⟩ = some (.int .i64 Z) := blk_cell HF2.out 2; have q3 : w2.cell? ⟨w1.heap.size, 3, none⟩ = some (.int .i64 E) := blk_cell HF2.out 3; have HB2 : Hid (Below w.heap.size w w2) := (hb1.alloc hz1 _).trans (hb2.mono (by simp; omega))))
  go_ret2
  exact ⟨ret_sc hR.out rfl, HB2.out⟩

set_option maxHeartbeats 1000000 in
theorem rread_day (s : ByteArray) (hs : s.size ≤ 549755813888) (hk : Hid ((spl s.data.toList).date = true ∨ (spl s.data.toList).time = true)) (hV : Hid (formV (spl s.data.toList) = .agg #[.int .i64 1, .int .i64 (-1), .int .i64 (-1), .int .i64 10])) (b1 : ((10 : Int) != (s.size : Int)) = false) (hb : Hid (mayL s.data.toList = true)) (hR : Hid (readD s.data.toList = (s.data.toList, 0))) (w : World) :
    Calls Tryz.prog 6 #[.string s] w fun e w' => e = .returned (.tuple #[.string ⟨(readD s.data.toList).1.toArray⟩, .int .i64 (readD s.data.toList).2]) ∧ Below w.heap.size w w' := by
  go_enter Tryz.func6, Tryz.ntmps6
  go_wp2_with (first
    | (go_at_call 16; (with_reducible refine (rform_v s hs hV _).mono ?_); rintro e w1 ⟨rfl, hb1⟩; have hz1 := hb1.size)
    | (go_at_call 17; (with_reducible refine (rmay_v s hs hk hV hb _).mono ?_); rintro e w2 ⟨rfl, hb2⟩; have HF2 : Hid (w2.heap[w1.heap.size]? = some (.cells #[.int .i64 1, .int .i64 (-1), .int .i64 (-1), .int .i64 10] 37 (0, 0))) := blk_later (heap_new1 w1 _) hb2 (by simp); have q0 : w2.cell? ⟨w1.heap.size, 0, none⟩ = some (.int .i64 1) := blk_cell HF2.out 0; have q1 : w2.cell? ⟨w1.heap.size, 1, none⟩ = some (.int .i64 (-1)) := blk_cell HF2.out 1; have q2 : w2.cell? ⟨w1.heap.size, 2, none⟩ = some (.int .i64 (-1)) := blk_cell HF2.out 2; have q3 : w2.cell? ⟨w1.heap.size, 3, none⟩ = some (.int .i64 10) := blk_cell HF2.out 3; have HB2 : Hid (Below w.heap.size w w2) := (hb1.alloc hz1 _).trans (hb2.mono (by simp; omega))))
  go_ret2
  exact ⟨ret_sc hR.out rfl, HB2.out⟩

/-- What the loop over a part of a second keeps. -/
def StrL (u p : ByteArray) : Prop := Hid (stripD u.data.toList = stripD p.data.toList)
theorem StrL.start (p : ByteArray) : StrL p p := rfl
theorem getLast_at {u : ByteArray} {j : Nat} (hj : u.size = j + 1) : u.data.toList.getLast? = some (u[j]'(by omega)) := by
  have hl : u.data.toList.length = j + 1 := hj
  rw [List.getLast?_eq_getElem?, hl]
  simp only [Nat.add_sub_cancel]
  rw [List.getElem?_eq_getElem (by omega)]; rfl
theorem StrL.step {u p : ByteArray} (h : StrL u p) {j : Nat} (hj : u.size = j + 1) (h' : (u[j]'(by omega)).toNat = 48 ∨ u.data.toList = [46]) : StrL (u.extract 0 j) p := by
  show _ = _
  have hl : u.data.toList.length = j + 1 := hj
  have he : (u.extract 0 j).data.toList = u.data.toList.dropLast := by
    rw [ext_list, List.drop_zero, Nat.sub_zero, List.dropLast_eq_take, hl]; rfl
  rw [he, ← stripD_yes (by intro e; rw [e] at hl; simp at hl) (h'.imp (fun q => by rw [getLast_at hj]; congr 1; exact UInt8.toNat_inj.1 q) id)]
  exact h
theorem StrL.stop {u p : ByteArray} (h : StrL u p) (h' : u.size = 0 ∨ ∃ j, ∃ hj : u.size = j + 1, (u[j]'(by omega)).toNat ≠ 48 ∧ u.data.toList ≠ [46]) : u.data.toList = stripD p.data.toList := by
  rw [← show stripD u.data.toList = _ from h]
  rcases h' with h' | ⟨j, hj, h1, h2⟩
  · have : u.data.toList = [] := List.length_eq_zero_iff.1 h'
    rw [this, stripD_nil]
  · rw [stripD_no]
    rintro (q | q)
    · rw [getLast_at hj] at q; injection q with q; rw [q] at h1; exact h1 rfl
    · exact h2 q

theorem last_or {u : ByteArray} {n : Nat} (h : ((n : Int) == 48) = true ∨ (u.toList == [46]) = true) : n = 48 ∨ u.data.toList = [46] := by
  rcases h with h | h
  · exact .inl (by simp at h; omega)
  · exact .inr (by rw [ByteArray.toList_eq] at h; exact eq_of_beq h)
theorem last_nor {u : ByteArray} {n : Nat} (h1 : ¬ (n : Int) = 48) (h : ((n : Int) == 48) = false ∧ (u.toList == [46]) = false) : n ≠ 48 ∧ u.data.toList ≠ [46] :=
  ⟨by omega, fun e => by have := h.2; rw [ByteArray.toList_eq, e] at this; exact absurd this (by decide)⟩

set_option maxRecDepth 100000 in
set_option maxHeartbeats 2000000 in
theorem rread_time (s : ByteArray) (hs : s.size ≤ 549755813888) (hk : Hid ((spl s.data.toList).date = true ∨ (spl s.data.toList).time = true)) (h8 : 8 ≤ s.size) (hV : Hid (formV (spl s.data.toList) = .agg #[.int .i64 2, .int .i64 0, .int .i64 (-1), .int .i64 (s.size : Int)])) (hb : Hid (mayL s.data.toList = true)) (hR : Hid (readD s.data.toList = (s.data.toList.take 8 ++ stripD (s.data.toList.drop 8), 0))) (w : World) :
    Calls Tryz.prog 6 #[.string s] w fun e w' => e = .returned (.tuple #[.string ⟨(readD s.data.toList).1.toArray⟩, .int .i64 (readD s.data.toList).2]) ∧ Below w.heap.size w w' := by
  have b1 : ((s.size : Int) != (s.size : Int)) = false := by simp
  go_enter Tryz.func6, Tryz.ntmps6
  go_wp2_with (first
    | (go_at_call 16; (with_reducible refine (rform_v s hs hV _).mono ?_); rintro e w1 ⟨rfl, hb1⟩; have hz1 := hb1.size)
    | (go_at_call 17; (with_reducible refine (rmay_v s hs hk hV hb _).mono ?_); rintro e w2 ⟨rfl, hb2⟩; have HF2 : Hid (w2.heap[w1.heap.size]? = some (.cells #[.int .i64 2, .int .i64 0, .int .i64 (-1), .int .i64 (s.size : Int)] 37 (0, 0))) := blk_later (heap_new1 w1 _) hb2 (by simp); have q0 : w2.cell? ⟨w1.heap.size, 0, none⟩ = some (.int .i64 2) := blk_cell HF2.out 0; have q1 : w2.cell? ⟨w1.heap.size, 1, none⟩ = some (.int .i64 0) := blk_cell HF2.out 1; have q2 : w2.cell? ⟨w1.heap.size, 2, none⟩ = some (.int .i64 (-1)) := blk_cell HF2.out 2; have q3 : w2.cell? ⟨w1.heap.size, 3, none⟩ = some (.int .i64 (s.size : Int)) := blk_cell HF2.out 3; have HB2 : Hid (Below w.heap.size w w2) := (hb1.alloc hz1 _).trans (hb2.mono (by simp; omega))))
  go_loop [7] (fun u => ∃ u' : ByteArray, u = .string u' ∧ u'.size ≤ s.size ∧ StrL u' (s.extract 8 s.size)) (fun u => match u with | .string x => x.size | _ => 0)
  case atStart => exact ⟨s.extract 8 s.size, rfl, by rw [ByteArray.size_extract]; omega, StrL.start _⟩
  case round =>
    obtain ⟨u, rfl, hu, hst⟩ := hrel
    rcases Nat.eq_zero_or_pos u.size with h0 | h0
    · have HE := hst.stop (.inl h0)
      clear hst
      go_wp2
      go_ret2
      exact ⟨ret_sc hR.out (by rw [app_list, HE, ext_list, ext_end]; simp), HB2.out⟩
    · obtain ⟨j, hj⟩ : ∃ j, u.size = j + 1 := ⟨u.size - 1, by omega⟩
      have hlt : j < u.size := by omega
      have hx : Hid ((u[j]'hlt).toNat = 48 ∨ u.data.toList = [46] → StrL (u.extract 0 j) (s.extract 8 s.size)) := fun h => hst.step hj h
      have hy : Hid ((u[j]'hlt).toNat ≠ 48 ∧ u.data.toList ≠ [46] → u.data.toList = stripD (s.extract 8 s.size).data.toList) := fun h => hst.stop (.inr ⟨j, hj, h⟩)
      clear hst
      go_wp2
      case roundEnd =>
        go_round
        case rel => exact ⟨u.extract 0 j, rfl, by rw [ByteArray.size_extract]; omega, hx.out (by first | exact .inl (by omega) | exact last_or ‹_ ∨ _›)⟩
        case measure => simp only [ByteArray.size_extract]; omega
      case roundEnd =>
        go_round
        case rel => exact ⟨u.extract 0 j, rfl, by rw [ByteArray.size_extract]; omega, hx.out (by first | exact .inl (by omega) | exact last_or ‹_ ∨ _›)⟩
        case measure => simp only [ByteArray.size_extract]; omega
      have HE := hy.out (last_nor ‹_› ‹_ ∧ _›)
      go_ret2
      exact ⟨ret_sc hR.out (by rw [app_list, HE, ext_list, ext_end]; simp), HB2.out⟩

set_option maxRecDepth 100000 in
set_option maxHeartbeats 2000000 in
theorem rread_both (s : ByteArray) (hs : s.size ≤ 549755813888) (hk : Hid ((spl s.data.toList).date = true ∨ (spl s.data.toList).time = true)) (h19 : 19 ≤ s.size) (hV : Hid (formV (spl s.data.toList) = .agg #[.int .i64 3, .int .i64 11, .int .i64 (-1), .int .i64 (s.size : Int)])) (hb : Hid (mayL s.data.toList = true)) (hR : Hid (readD s.data.toList = ((s.data.toList.take 10 ++ [84]) ++ ((s.data.toList.drop 11).take 8 ++ stripD (s.data.toList.drop 19)), 0))) (w : World) :
    Calls Tryz.prog 6 #[.string s] w fun e w' => e = .returned (.tuple #[.string ⟨(readD s.data.toList).1.toArray⟩, .int .i64 (readD s.data.toList).2]) ∧ Below w.heap.size w w' := by
  have b1 : ((s.size : Int) != (s.size : Int)) = false := by simp
  go_enter Tryz.func6, Tryz.ntmps6
  go_wp2_with (first
    | (go_at_call 16; (with_reducible refine (rform_v s hs hV _).mono ?_); rintro e w1 ⟨rfl, hb1⟩; have hz1 := hb1.size)
    | (go_at_call 17; (with_reducible refine (rmay_v s hs hk hV hb _).mono ?_); rintro e w2 ⟨rfl, hb2⟩; have HF2 : Hid (w2.heap[w1.heap.size]? = some (.cells #[.int .i64 3, .int .i64 11, .int .i64 (-1), .int .i64 (s.size : Int)] 37 (0, 0))) := blk_later (heap_new1 w1 _) hb2 (by simp); have q0 : w2.cell? ⟨w1.heap.size, 0, none⟩ = some (.int .i64 3) := blk_cell HF2.out 0; have q1 : w2.cell? ⟨w1.heap.size, 1, none⟩ = some (.int .i64 11) := blk_cell HF2.out 1; have q2 : w2.cell? ⟨w1.heap.size, 2, none⟩ = some (.int .i64 (-1)) := blk_cell HF2.out 2; have q3 : w2.cell? ⟨w1.heap.size, 3, none⟩ = some (.int .i64 (s.size : Int)) := blk_cell HF2.out 3; have HB2 : Hid (Below w.heap.size w w2) := (hb1.alloc hz1 _).trans (hb2.mono (by simp; omega))))
  go_loop [7] (fun u => ∃ u' : ByteArray, u = .string u' ∧ u'.size ≤ s.size ∧ StrL u' (s.extract 19 s.size)) (fun u => match u with | .string x => x.size | _ => 0)
  case atStart => exact ⟨s.extract 19 s.size, rfl, by rw [ByteArray.size_extract]; omega, StrL.start _⟩
  case round =>
    obtain ⟨u, rfl, hu, hst⟩ := hrel
    rcases Nat.eq_zero_or_pos u.size with h0 | h0
    · have HE := hst.stop (.inl h0)
      clear hst
      go_wp2
      go_ret2
      exact ⟨ret_sc hR.out (by rw [app_list, app_list, app_list, HE, ext_list, ext_list, ext_end]; simp), HB2.out⟩
    · obtain ⟨j, hj⟩ : ∃ j, u.size = j + 1 := ⟨u.size - 1, by omega⟩
      have hlt : j < u.size := by omega
      have hx : Hid ((u[j]'hlt).toNat = 48 ∨ u.data.toList = [46] → StrL (u.extract 0 j) (s.extract 19 s.size)) := fun h => hst.step hj h
      have hy : Hid ((u[j]'hlt).toNat ≠ 48 ∧ u.data.toList ≠ [46] → u.data.toList = stripD (s.extract 19 s.size).data.toList) := fun h => hst.stop (.inr ⟨j, hj, h⟩)
      clear hst
      go_wp2
      case roundEnd =>
        go_round
        case rel => exact ⟨u.extract 0 j, rfl, by rw [ByteArray.size_extract]; omega, hx.out (by first | exact .inl (by omega) | exact last_or ‹_ ∨ _›)⟩
        case measure => simp only [ByteArray.size_extract]; omega
      case roundEnd =>
        go_round
        case rel => exact ⟨u.extract 0 j, rfl, by rw [ByteArray.size_extract]; omega, hx.out (by first | exact .inl (by omega) | exact last_or ‹_ ∨ _›)⟩
        case measure => simp only [ByteArray.size_extract]; omega
      have HE := hy.out (last_nor ‹_› ‹_ ∧ _›)
      go_ret2
      exact ⟨ret_sc hR.out (by rw [app_list, app_list, app_list, HE, ext_list, ext_list, ext_end]; simp), HB2.out⟩

set_option maxRecDepth 100000 in
set_option maxHeartbeats 2000000 in
theorem rread_z1 (s : ByteArray) (hs : s.size ≤ 549755813888) (hk : Hid ((spl s.data.toList).date = true ∨ (spl s.data.toList).time = true)) (Z : Nat) (hZ : 19 ≤ Z) (hZs : Z < s.size) (hB : ((s[Z].toNat : Int) == 90) = true ∨ ((s[Z].toNat : Int) == 90) = false ∧ ((s[Z].toNat : Int) == 122) = true) (hV : Hid (formV (spl s.data.toList) = .agg #[.int .i64 4, .int .i64 11, .int .i64 (Z : Int), .int .i64 (s.size : Int)])) (hb : Hid (mayL s.data.toList = true)) (hR : Hid (readD s.data.toList = (((s.data.toList.take 10 ++ [84]) ++ ((s.data.toList.drop 11).take 8 ++ stripD ((s.data.toList.drop 19).take (Z - 19)))) ++ [90], 0))) (w : World) :
    Calls Tryz.prog 6 #[.string s] w fun e w' => e = .returned (.tuple #[.string ⟨(readD s.data.toList).1.toArray⟩, .int .i64 (readD s.data.toList).2]) ∧ Below w.heap.size w w' := by
  have b1 : ((s.size : Int) != (s.size : Int)) = false := by simp
  rcases hB with b2 | ⟨b2, b3⟩
  all_goals
    go_enter Tryz.func6, Tryz.ntmps6
    go_wp2_with (first
      | (go_at_call 16; (with_reducible refine (rform_v s hs hV _).mono ?_); rintro e w1 ⟨rfl, hb1⟩; have hz1 := hb1.size)
      | (go_at_call 17; (with_reducible refine (rmay_v s hs hk hV hb _).mono ?_); rintro e w2 ⟨rfl, hb2⟩; have HF2 : Hid (w2.heap[w1.heap.size]? = some (.cells #[.int .i64 4, .int .i64 11, .int .i64 (Z : Int), .int .i64 (s.size : Int)] 37 (0, 0))) := blk_later (heap_new1 w1 _) hb2 (by simp); have q0 : w2.cell? ⟨w1.heap.size, 0, none⟩ = some (.int .i64 4) := blk_cell HF2.out 0; have q1 : w2.cell? ⟨w1.heap.size, 1, none⟩ = some (.int .i64 11) := blk_cell HF2.out 1; have q2 : w2.cell? ⟨w1.heap.size, 2, none⟩ = some (.int .i64 (Z : Int)) := blk_cell HF2.out 2; have q3 : w2.cell? ⟨w1.heap.size, 3, none⟩ = some (.int .i64 (s.size : Int)) := blk_cell HF2.out 3; have HB2 : Hid (Below w.heap.size w w2) := (hb1.alloc hz1 _).trans (hb2.mono (by simp; omega))))
    go_loop [7] (fun u => ∃ u' : ByteArray, u = .string u' ∧ u'.size ≤ s.size ∧ StrL u' (s.extract 19 Z)) (fun u => match u with | .string x => x.size | _ => 0)
    case atStart => exact ⟨s.extract 19 Z, rfl, by rw [ByteArray.size_extract]; omega, StrL.start _⟩
    case round =>
      obtain ⟨u, rfl, hu, hst⟩ := hrel
      rcases Nat.eq_zero_or_pos u.size with h0 | h0
      · have HE := hst.stop (.inl h0)
        clear hst
        go_wp2
        go_ret2
        exact ⟨ret_sc hR.out (by rw [app_list, app_list, app_list, app_list, HE, ext_list, ext_list, ext_list]; simp), HB2.out⟩
      · obtain ⟨j, hj⟩ : ∃ j, u.size = j + 1 := ⟨u.size - 1, by omega⟩
        have hlt : j < u.size := by omega
        have hx : Hid ((u[j]'hlt).toNat = 48 ∨ u.data.toList = [46] → StrL (u.extract 0 j) (s.extract 19 Z)) := fun h => hst.step hj h
        have hy : Hid ((u[j]'hlt).toNat ≠ 48 ∧ u.data.toList ≠ [46] → u.data.toList = stripD (s.extract 19 Z).data.toList) := fun h => hst.stop (.inr ⟨j, hj, h⟩)
        clear hst
        go_wp2
        case roundEnd =>
          go_round
          case rel => exact ⟨u.extract 0 j, rfl, by rw [ByteArray.size_extract]; omega, hx.out (by first | exact .inl (by omega) | exact last_or ‹_ ∨ _›)⟩
          case measure => simp only [ByteArray.size_extract]; omega
        case roundEnd =>
          go_round
          case rel => exact ⟨u.extract 0 j, rfl, by rw [ByteArray.size_extract]; omega, hx.out (by first | exact .inl (by omega) | exact last_or ‹_ ∨ _›)⟩
          case measure => simp only [ByteArray.size_extract]; omega
        have HE := hy.out (last_nor ‹_› ‹_ ∧ _›)
        go_ret2
        exact ⟨ret_sc hR.out (by rw [app_list, app_list, app_list, app_list, HE, ext_list, ext_list, ext_list]; simp), HB2.out⟩

set_option maxRecDepth 100000 in
set_option maxHeartbeats 2000000 in
theorem rread_z6 (s : ByteArray) (hs : s.size ≤ 549755813888) (hk : Hid ((spl s.data.toList).date = true ∨ (spl s.data.toList).time = true)) (Z : Nat) (hZ : 19 ≤ Z) (hZs : Z < s.size) (b2 : ((s[Z].toNat : Int) == 90) = false) (b3 : ((s[Z].toNat : Int) == 122) = false) (hV : Hid (formV (spl s.data.toList) = .agg #[.int .i64 4, .int .i64 11, .int .i64 (Z : Int), .int .i64 (s.size : Int)])) (hb : Hid (mayL s.data.toList = true)) (hR : Hid (readD s.data.toList = (((s.data.toList.take 10 ++ [84]) ++ ((s.data.toList.drop 11).take 8 ++ stripD ((s.data.toList.drop 19).take (Z - 19)))) ++ s.data.toList.drop Z, 0))) (w : World) :
    Calls Tryz.prog 6 #[.string s] w fun e w' => e = .returned (.tuple #[.string ⟨(readD s.data.toList).1.toArray⟩, .int .i64 (readD s.data.toList).2]) ∧ Below w.heap.size w w' := by
  have b1 : ((s.size : Int) != (s.size : Int)) = false := by simp
  go_enter Tryz.func6, Tryz.ntmps6
  go_wp2_with (first
    | (go_at_call 16; (with_reducible refine (rform_v s hs hV _).mono ?_); rintro e w1 ⟨rfl, hb1⟩; have hz1 := hb1.size)
    | (go_at_call 17; (with_reducible refine (rmay_v s hs hk hV hb _).mono ?_); rintro e w2 ⟨rfl, hb2⟩; have HF2 : Hid (w2.heap[w1.heap.size]? = some (.cells #[.int .i64 4, .int .i64 11, .int .i64 (Z : Int), .int .i64 (s.size : Int)] 37 (0, 0))) := blk_later (heap_new1 w1 _) hb2 (by simp); have q0 : w2.cell? ⟨w1.heap.size, 0, none⟩ = some (.int .i64 4) := blk_cell HF2.out 0; have q1 : w2.cell? ⟨w1.heap.size, 1, none⟩ = some (.int .i64 11) := blk_cell HF2.out 1; have q2 : w2.cell? ⟨w1.heap.size, 2, none⟩ = some (.int .i64 (Z : Int)) := blk_cell HF2.out 2; have q3 : w2.cell? ⟨w1.heap.size, 3, none⟩ = some (.int .i64 (s.size : Int)) := blk_cell HF2.out 3; have HB2 : Hid (Below w.heap.size w w2) := (hb1.alloc hz1 _).trans (hb2.mono (by simp; omega))))
  go_loop [7] (fun u => ∃ u' : ByteArray, u = .string u' ∧ u'.size ≤ s.size ∧ StrL u' (s.extract 19 Z)) (fun u => match u with | .string x => x.size | _ => 0)
  case atStart => exact ⟨s.extract 19 Z, rfl, by rw [ByteArray.size_extract]; omega, StrL.start _⟩
  case round =>
    obtain ⟨u, rfl, hu, hst⟩ := hrel
    rcases Nat.eq_zero_or_pos u.size with h0 | h0
    · have HE := hst.stop (.inl h0)
      clear hst
      go_wp2
      go_ret2
      exact ⟨ret_sc hR.out (by rw [app_list, app_list, app_list, app_list, HE, ext_list, ext_list, ext_list, ext_end]; simp), HB2.out⟩
    · obtain ⟨j, hj⟩ : ∃ j, u.size = j + 1 := ⟨u.size - 1, by omega⟩
      have hlt : j < u.size := by omega
      have hx : Hid ((u[j]'hlt).toNat = 48 ∨ u.data.toList = [46] → StrL (u.extract 0 j) (s.extract 19 Z)) := fun h => hst.step hj h
      have hy : Hid ((u[j]'hlt).toNat ≠ 48 ∧ u.data.toList ≠ [46] → u.data.toList = stripD (s.extract 19 Z).data.toList) := fun h => hst.stop (.inr ⟨j, hj, h⟩)
      clear hst
      go_wp2
      case roundEnd =>
        go_round
        case rel => exact ⟨u.extract 0 j, rfl, by rw [ByteArray.size_extract]; omega, hx.out (by first | exact .inl (by omega) | exact last_or ‹_ ∨ _›)⟩
        case measure => simp only [ByteArray.size_extract]; omega
      case roundEnd =>
        go_round
        case rel => exact ⟨u.extract 0 j, rfl, by rw [ByteArray.size_extract]; omega, hx.out (by first | exact .inl (by omega) | exact last_or ‹_ ∨ _›)⟩
        case measure => simp only [ByteArray.size_extract]; omega
      have HE := hy.out (last_nor ‹_› ‹_ ∧ _›)
      go_ret2
      exact ⟨ret_sc hR.out (by rw [app_list, app_list, app_list, app_list, HE, ext_list, ext_list, ext_list, ext_end]; simp), HB2.out⟩

end Go.Proofs.YtnoghelkcbjfiaaGreatDoor
