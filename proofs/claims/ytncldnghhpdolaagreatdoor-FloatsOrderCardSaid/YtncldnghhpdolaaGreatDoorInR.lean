/- strings.SplitSeq, a range over a function whose iterator keeps what is left in a captured cell; no statement of the seat is proved here. -/
import Derived.Test.YtncldnghhpdolaaGreatDoorLat
import Derived.Test.YtncldnghhpdolaaGreatDoorShelf
import Derived.RangeFuncNested
import Derived.RangeFuncBound
import Derived.RangeFuncCalls
import Derived.RangeFuncLeaves
import Derived.Shelf.Abstract
import Derived.Shelf.RegionOpen
import Derived.WalkKit
import Derived.OwnWalkIn
import Derived.TacticsInMore
import Derived.LoopNIn
import Derived.LoopIn
namespace Go.Proofs.YtncldnghhpdolaaGreatDoor
open Go.RowKit Go.Shelf
attribute [local go_sem] Oper.semAt_some

theorem splitseq_is (s sep : ByteArray) (w : World) : Calls Tryz.prog 61 #[.string s, .string sep] w fun e w' =>
    e = .returned (.func (.func 117) #[] #[.pointer (some ⟨w.heap.size + 1, 0, none⟩), .pointer (some ⟨w.heap.size, 0, none⟩), .pointer (some ⟨w.heap.size + 2, 0, none⟩)]) ∧
    w' = ((w.alloc (.cells #[.string s] 9)).alloc (.cells #[.string sep] 9)).alloc (.cells #[.int .i64 0] 3) := by
  have h : Calls Tryz.prog 85 #[.string s, .string sep, .int .i64 0] w fun e w' =>
    e = .returned (.func (.func 117) #[] #[.pointer (some ⟨w.heap.size + 1, 0, none⟩), .pointer (some ⟨w.heap.size, 0, none⟩), .pointer (some ⟨w.heap.size + 2, 0, none⟩)]) ∧
    w' = ((w.alloc (.cells #[.string s] 9)).alloc (.cells #[.string sep] 9)).alloc (.cells #[.int .i64 0] 3) := by
    go_enter Tryz.func85, Tryz.ntmps85
    go_wp2
    go_ret
    exact ⟨rfl, rfl⟩
  go_enter Tryz.func61, Tryz.ntmps61
  go_wp2_with (go_at_call 85; (with_reducible refine h.mono ?_); rintro e w2 ⟨rfl, rfl⟩)
  go_ret
  exact ⟨rfl, rfl⟩

/-- The parts of a text between its low marks. -/
def spl : List UInt8 → List (List UInt8)
  | [] => [[]]
  | c :: r => if c = 95 then [] :: spl r else match spl r with
    | p :: ps => (c :: p) :: ps
    | [] => [[c]]
theorem spl_ne : ∀ l, spl l ≠ [] := by
  intro l
  cases l with
  | nil => simp [spl]
  | cons c r =>
    rw [spl]
    split
    · simp
    · split <;> simp
theorem spl_none : ∀ l : List UInt8, (∀ c ∈ l, c ≠ 95) → spl l = [l] := by
  intro l
  induction l with
  | nil => intro _; rfl
  | cons c r ih =>
    intro h
    rw [spl, if_neg (h c (by simp)), ih (fun c hc => h c (by simp [hc]))]
theorem spl_some : ∀ (a r : List UInt8), (∀ c ∈ a, c ≠ 95) → spl (a ++ (95 :: r)) = a :: spl r := by
  intro a
  induction a with
  | nil => intro r _; rw [List.nil_append, spl, if_pos rfl]
  | cons c a ih =>
    intro r h
    rw [List.cons_append, spl, if_neg (h c (by simp)), ih r (fun c hc => h c (by simp [hc]))]
theorem spl_idx (v : ByteArray) (i : Nat) (h : Lib.indexByte v.data.toList 95 = (i : Int)) : i < v.size ∧ spl v.data.toList = (v.extract 0 i).data.toList :: spl (v.extract (i + 1) v.size).data.toList := by
  obtain ⟨h1, h2⟩ := Lib.indexByte_some h
  obtain ⟨hi, h3⟩ := List.getElem?_eq_some_iff.1 h1
  have hi' : i < v.size := hi
  refine ⟨hi', ?_⟩
  have e1 : (v.extract 0 i).data.toList = v.data.toList.take i := by rw [ByteArray.data_extract, Array.toList_extract]; simp
  have e2 : (v.extract (i + 1) v.size).data.toList = v.data.toList.drop (i + 1) := by
    rw [ByteArray.data_extract, Array.toList_extract]
    have h4 : v.data.toList.length = v.size := rfl
    simp only [List.take_drop]
    rw [List.take_of_length_le (by omega)]
  rw [e1, e2, ← spl_some]
  · rw [← h3, ← List.drop_eq_getElem_cons, List.take_append_drop]
  · intro c hc
    obtain ⟨k, hk, rfl⟩ := List.mem_iff_getElem.1 hc
    have hk1 : k < i := by simp at hk; omega
    have := h2 k hk1
    intro e
    apply this
    rw [List.getElem?_eq_getElem (by omega), ← e]
    simp
theorem spl_no (v : ByteArray) (h : Lib.indexByte v.data.toList 95 = -1) : spl v.data.toList = [v.data.toList] := by
  refine spl_none _ fun c hc e => ?_
  obtain ⟨k, hk, rfl⟩ := List.mem_iff_getElem.1 hc
  exact Lib.indexByte_none h k (by rw [List.getElem?_eq_getElem hk, e])

/-- How much is left, read off the memory. -/
def leftS (w : World) (b : Nat) : Nat := match w.cell? ⟨b, 0, none⟩ with
  | some (.string v) => v.size
  | _ => 0
theorem leftS_eq {w : World} {b : Nat} {v : ByteArray} (h : w.cell? ⟨b, 0, none⟩ = some (.string v)) : leftS w b = v.size := by unfold leftS; rw [h]

set_option maxRecDepth 100000 in
set_option maxHeartbeats 2000000 in
/-- The iterator, at every loop body. J: what holds where the parts pre have come and v is left. -/
theorem split_in (l bs bp bv : Nat) (s : ByteArray) (J : List (List UInt8) → ByteArray → World → Prop) (Jx : World → Prop)
    (hs : s.size ≤ 1000000)
    (hread : ∀ pre v W, J pre v W → W.cell? ⟨bs, 0, none⟩ = some (.string v) ∧ W.frozen? ⟨bs, 0, none⟩ = false ∧ W.cell? ⟨bp, 0, none⟩ = some (.string ⟨#[95]⟩) ∧ W.cell? ⟨bv, 0, none⟩ = some (.int .i64 0))
    (hset : ∀ pre v v' W, J pre v W → J pre v' (W.setCell ⟨bs, 0, none⟩ (.string v')))
    (hY : ∀ pre v (x : ByteArray) W, J pre v W → pre ++ [x.data.toList] <+: spl s.data.toList → YieldAt Fence.wide 3 Tryz.prog l #[.string x] W fun e W' => (e = .returned (.bool true) ∧ J (pre ++ [x.data.toList]) v W') ∨ (e = .returned (.bool false) ∧ Jx W'))
    (W : World) (h0 : J [] s W) :
    CallsIn Fence.wide 4 Tryz.prog 117 #[.func (.yield l) #[] #[], .pointer (some ⟨bp, 0, none⟩), .pointer (some ⟨bs, 0, none⟩), .pointer (some ⟨bv, 0, none⟩)] W fun e W' =>
      (∃ v, e = .returned v) ∧ ((∃ v, J (spl s.data.toList) v W') ∨ Jx W') := by
  obtain ⟨c1, c2, c3, c4⟩ := hread _ _ _ h0
  refine callsIn_of_wp Tryz.func117 rfl trivial ?_ rfl
  simp only [Tryz.ntmps117, List.size_toArray, List.length_cons, List.length_nil, Nat.reduceAdd, Nat.reduceSub, Array.replicate_succ, Array.replicate_zero, List.push_toArray, List.append_toArray, List.nil_append, List.cons_append]
  gi_wp2
  clear c1 c2 c3 c4
  gi_loopw [7, 8] (fun p q wr => ∃ (pre : List (List UInt8)) (v : ByteArray), spl s.data.toList = pre ++ spl v.data.toList ∧ v.size ≤ s.size ∧ J pre v wr) (fun p q wr => leftS wr bs)
  case atStart => exact ⟨[], s, rfl, Nat.le_refl _, h0⟩
  case round =>
    obtain ⟨pre, v, hsp, hvz, hJ⟩ := hrel
    obtain ⟨c1, c2, c3, c4⟩ := hread _ _ _ hJ
    have hi := fun W => callsIn_wide (n := 3) |>.2 (Tryz.strings_Index_one v 95 W)
    rcases (by have := Lib.indexByte_ge v.data.toList 95; omega : Lib.indexByte v.data.toList 95 = -1 ∨ 0 ≤ Lib.indexByte v.data.toList 95) with hm | hm
    · rw [hm] at hi
      have hpx : pre ++ [v.data.toList] <+: spl s.data.toList := by rw [hsp, spl_no v hm]; exact List.prefix_refl _
      have hfin : pre ++ [v.data.toList] = spl s.data.toList := by rw [hsp, spl_no v hm]
      obtain ⟨fn, tmps, assign, body, hy, hR⟩ := hY pre v v wr hJ hpx
      gi_wp2_with (refine ⟨trivial, ?_⟩; gi_at_call 42; refine (hi _).mono ?_; rintro e w2 ⟨rfl, rfl⟩)
      refine hR.mono ?_
      rintro e W3 (⟨rfl, hJ3⟩ | ⟨rfl, hJx3⟩)
      · gi_wp2
        go_end0
        exact ⟨⟨_, rfl⟩, .inl ⟨v, by rw [← hfin]; exact hJ3⟩⟩
      · gi_wp2
        go_end0
        exact ⟨⟨_, rfl⟩, .inr hJx3⟩
    · obtain ⟨i, hii⟩ : ∃ i : Nat, Lib.indexByte v.data.toList 95 = (i : Int) := ⟨(Lib.indexByte v.data.toList 95).toNat, by omega⟩
      rw [hii] at hi
      obtain ⟨hil, hsv⟩ := spl_idx v i hii
      rw [hsv] at hsp
      have hpx : pre ++ [(v.extract 0 i).data.toList] <+: spl s.data.toList := by rw [hsp]; exact ⟨spl (v.extract (i + 1) v.size).data.toList, by simp⟩
      obtain ⟨fn, tmps, assign, body, hy, hR⟩ := hY pre v (v.extract 0 i) wr hJ hpx
      gi_wp2_with (refine ⟨trivial, ?_⟩; gi_at_call 42; refine (hi _).mono ?_; rintro e w2 ⟨rfl, rfl⟩)
      refine hR.mono ?_
      rintro e W3 (⟨rfl, hJ3⟩ | ⟨rfl, hJx3⟩)
      · obtain ⟨d1, d2, d3, d4⟩ := hread _ _ _ hJ3
        have hsz : (v.extract (i + 1) v.size).size = v.size - (i + 1) := by rw [ByteArray.size_extract]; omega
        have hJ4 := hset _ _ (v.extract (i + 1) v.size) _ hJ3
        obtain ⟨f1, f2, f3, f4⟩ := hread _ _ _ hJ4
        gi_wp2
        go_roundw
        case rel => exact ⟨pre ++ [(v.extract 0 i).data.toList], v.extract (i + 1) v.size, by rw [hsp]; simp, by omega, hJ4⟩
        case measure => rw [leftS_eq f1, leftS_eq c1, hsz]; omega
      · gi_wp2
        refine bodyPost_ret (results_none rfl _ _ _) rfl ?_
        exact ⟨⟨_, rfl⟩, .inr hJx3⟩

end Go.Proofs.YtncldnghhpdolaaGreatDoor
