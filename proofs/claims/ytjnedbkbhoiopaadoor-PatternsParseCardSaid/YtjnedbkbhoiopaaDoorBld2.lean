/- strings.Builder at a builder of the call's own beside a block that stays: WriteByte, Write; no statement of the seat is proved here. -/
import Derived.Test.YtjnedbkbhoiopaaDoorBld
import Derived.Maps.AppendAt
namespace Go.Proofs.YtjnedbkbhoiopaaDoor
open Go.RowKit

/-- A builder of the call's own, whose row is not block q. -/
def BQ (B b q : Nat) (l : List UInt8) (w : World) : Prop := B ≤ b ∧ q ≠ b ∧ q < w.heap.size ∧ ∃ p v, (p = Value.pointer none ∨ p = .pointer (some ⟨b, 0, none⟩)) ∧ w.heap[b]? = some (.cells #[p, v] 74 (0, 0)) ∧
  w.ownsRow B 5 1 v l.length (byteVals l) ∧ v.ownBlock ≠ some b ∧ v.ownBlock ≠ some q
theorem BQ.is {B b q : Nat} {l : List UInt8} {w : World} (h : BQ B b q l w) : Lib.IsBuilder 74 5 B b (byteVals l) w := by
  obtain ⟨h1, _, _, p, v, hp, h2, h3, h4, _⟩ := h
  rcases hp with rfl | rfl
  · exact .inl ⟨h1, v, h2, by rw [byteVals_len]; exact h3, h4⟩
  · exact .inr ⟨h1, v, h2, by rw [byteVals_len]; exact h3, h4⟩
theorem BQ.keep {B b q : Nat} {l : List UInt8} {w w' : World} (h : BQ B b q l w) {C : Nat} (hb : Below C w w') (hC : w.heap.size ≤ C) : BQ B b q l w' := by
  obtain ⟨h1, h2, h3, p, v, hp, h4, h5, h6, h7⟩ := h
  exact ⟨h1, h2, by have := hb.size; omega, p, v, hp, blk_later h4 hb (Nat.lt_of_lt_of_le (blk_lt h4) hC), own_keep h5 hb hC, h6, h7⟩
theorem BQ.drew {B b q : Nat} {l : List UInt8} {w : World} (h : BQ B b q l w) : BQ B b q l w.drew := h
theorem BQ.new {w w' : World} {q : Nat} (hb : Below (w.heap.size + 1) (w.alloc (.cells #[.pointer none, .slice none 0 0] 74)) w') (hq : w.heap.size < q) (hq' : q < w'.heap.size) : BQ w.heap.size w.heap.size q [] w' :=
  ⟨Nat.le_refl _, by omega, hq', .pointer none, .slice none 0 0, .inl rfl, blk_later (heap_new1 w _) hb (by omega), World.ownsRow_nil _ _ _ _, by simp [Value.ownBlock], by simp [Value.ownBlock]⟩
/-- What a write leaves. -/
def BQ' (B b q : Nat) (l : List UInt8) (w w' : World) : Prop := BQ B b q l w' ∧ Below B w w' ∧ w'.heap[q]? = w.heap[q]?

theorem copyCheckQ (B b q : Nat) (l : List UInt8) (w : World) (h : BQ B b q l w) :
    Calls Tryd.prog 51 #[.pointer (some ⟨b, 0, none⟩)] w fun e w' => e = .returned (.tuple #[]) ∧ (∃ v, w'.heap[b]? = some (.cells #[.pointer (some ⟨b, 0, none⟩), v] 74 (0, 0)) ∧
      w'.ownsRow B 5 1 v l.length (byteVals l) ∧ v.ownBlock ≠ some b ∧ v.ownBlock ≠ some q) ∧ Below B w w' ∧ (∀ k, k ≠ b → w'.heap[k]? = w.heap[k]?) ∧ w'.heap.size = w.heap.size := by
  obtain ⟨h1, h2, h3, p, v, hp, h4, h5, h6, h7⟩ := h
  rcases hp with rfl | rfl
  · have hB : Lib.BuilderAt 74 5 B b (.pointer none) (byteVals l) w := ⟨h1, v, h4, by rw [byteVals_len]; exact h5, h6⟩
    refine (copyCheck_fresh b w hB.cell0 hB.shape hB.frozen0).mono ?_
    rintro e w' ⟨rfl, rfl⟩
    refine ⟨rfl, ⟨v, ?_, ?_, h6, h7⟩, (Below.refl B w).setCell (p := ⟨b, 0, none⟩) h1 _, fun k hk => Below.heap_setCell _ _ _ _ (fun e => hk e), by simp [World.setCell]⟩
    · simp [World.setCell, Array.getElem?_modify, h4]
    · exact h5.kept (row := some b) ⟨rfl, rfl, rfl, by simp [World.setCell], fun k _ hk => Below.heap_setCell _ _ _ _ (fun e => hk (by simp [e]))⟩ (Or.inr h6)
  · refine (copyCheck_used b w (by rw [Lib.cell_of_heap h4]; rfl)).mono ?_
    rintro e w' ⟨rfl, rfl⟩
    exact ⟨rfl, ⟨v, h4, h5, h6, h7⟩, Below.refl B _, fun _ _ => rfl, rfl⟩

set_option maxHeartbeats 2000000 in
set_option maxRecDepth 100000 in
theorem writeByteQ (B b q : Nat) (l : List UInt8) (c : UInt8) (w : World) (h : BQ B b q l w) (hlen : l.length + 1 ≤ 140737488355328) (hBw : B ≤ w.heap.size) :
    Calls Tryd.prog 37 #[.pointer (some ⟨b, 0, none⟩), .int .u8 ((c.toNat : Nat) : Int)] w fun e w' => e = .returned .nilIface ∧ BQ' B b q (l ++ [c]) w w' := by
  obtain ⟨i0, hi, hz0, hz1, hz2⟩ := info_parts bld_byte
  have hB := h.1
  have hqb := h.2.1
  have hq := h.2.2.1
  have CC := Lib.hid (copyCheckQ B b q l w h)
  clear h
  go_enter Tryd.func37, Tryd.ntmps37
  go_wp2_with (go_at_call 51; refine (Calls.mono CC.out ?_))
  rintro e w1 ⟨rfl, ⟨v, hbk, hown, hne, hnq⟩, hb1, hk1, hs1⟩
  have HK := Lib.hid hk1; clear hk1
  have HS1 := Lib.hid hs1; clear hs1
  have c0 : w1.cell? ⟨b, 0, none⟩ = some (.pointer (some ⟨b, 0, none⟩)) := by rw [Lib.cell_of_heap hbk]; rfl
  have c1 : w1.cell? ⟨b, 1, none⟩ = some v := by rw [Lib.cell_of_heap hbk]; rfl
  go_wp2_with (at_builtin; refine wpList_append_own_at _ rfl _ _ 72 rfl B 5 i0 (.int .u8 0) 1 1 Tryd.underlying72 hi hz0 hz1 hz2 rfl (by decide) _ _ _ rfl (hown.alloc _) ⟨w1.heap.size, 0, none⟩ 1 1 [.int .u8 ((c.toNat : Nat) : Int)] rfl rfl ?c1 ?c2 ?c3 ?c4 ?c5 ?_)
  case c1 =>
    intro j u hj
    match j, hj with
    | 0, hj => simp at hj; subst hj; simp [Addr.add]
  case c2 => intro u hu; simp at hu; subst hu; rfl
  case c3 => unfold maxLen; omega
  case c4 => omega
  case c5 => have := HS1.out; simp; omega
  intro v' w2 hown' hgrow _ hloc
  have hlt : b < w1.heap.size := blk_lt hbk
  have hb2 : w2.heap[b]? = some (.cells #[.pointer (some ⟨b, 0, none⟩), v] 74 (0, 0)) := by
    rw [hgrow.block b (by simp; omega) (fun e => hne e.symm), Lib.alloc_old w1 _ b hlt]
    exact hbk
  have hs1 := HS1.out
  have hq2 : w2.heap[q]? = w.heap[q]? := by
    rw [hgrow.block q (by simp; omega) (fun e => hnq e.symm), Lib.alloc_old w1 _ q (by omega), HK.out q hqb]
  have HQ2 := Lib.hid hq2; clear hq2 hs1
  have HL := Lib.hid hloc; clear hloc
  have d0 : w2.cell? ⟨b, 0, none⟩ = some (.pointer (some ⟨b, 0, none⟩)) := by rw [Lib.cell_of_heap hb2]; rfl
  have d1 : w2.cell? ⟨b, 1, none⟩ = some v := by rw [Lib.cell_of_heap hb2]; rfl
  have f1 : w2.frozen? ⟨b, 1, none⟩ = false := Lib.frozen_of_heap hb2 1
  obtain ⟨g, cap, rfl⟩ : ∃ g cap, v' = .slice (some ⟨g, 0, none⟩) (l.length + 1) cap := by
    rcases hown'.2 with ⟨_, h0⟩ | ⟨g, cap, cur, hv, _⟩
    · omega
    · exact ⟨g, cap, hv⟩
  go_wp2
  go_ret
  have hp := Lib.BuilderAt.put (T := 74) (e := 5) hB hb2 (bs' := byteVals (l ++ [c])) (by rw [byteVals_app, List.length_append, byteVals_len]; exact hown') (by decide)
  obtain ⟨_, v2, hv2, ho2, hn2⟩ := hp
  have hv2e : v2 = .slice (some ⟨g, 0, none⟩) (l.length + 1) cap := by
    have : (w2.setCell ⟨b, 1, none⟩ (.slice (some ⟨g, 0, none⟩) (l.length + 1) cap)).heap[b]? = some (.cells #[.pointer (some ⟨b, 0, none⟩), .slice (some ⟨g, 0, none⟩) (l.length + 1) cap] 74 (0, 0)) := by
      simp [World.setCell, Array.getElem?_modify, hb2]
    rw [this] at hv2
    simp at hv2
    exact hv2.symm
  subst hv2e
  rw [byteVals_len] at ho2
  have hs2 := hgrow.size
  have hs1 := HS1.out
  rw [size_new1] at hs2
  refine ⟨rfl, ⟨hB, hqb, by simp [World.setCell]; omega, _, _, .inr rfl, hv2, ho2, hn2, ?_⟩, ?_, ?_⟩
  · rcases HL.out with e | e
    · rw [e]; exact hnq
    · rw [e]; intro e'; injection e' with e'; omega
  · exact ((hb1.alloc (by have := hb1.size; omega) _).grown hgrow (by have := hb1.size; simp; omega) (fun k hk => (hown.lt k hk).1)).setCell (p := ⟨b, 1, none⟩) hB _
  · rw [Below.heap_setCell w2 ⟨b, 1, none⟩ _ q (fun e => hqb e)]; exact HQ2.out

set_option maxHeartbeats 2000000 in
set_option maxRecDepth 100000 in
theorem writeQ (B b q : Nat) (l : List UInt8) (g0 : Nat) (t : List UInt8) (ht : 0 < t.length) (m : Nat) (hm : m = t.length) (c : Nat) (w : World) (hT : ∀ j u, (byteVals t)[j]? = some u → w.cell? ((⟨g0, 0, none⟩ : Addr).add j) = some u) (h : BQ B b q l w) (hdis : g0 ≠ b) (hlen : l.length + t.length ≤ 140737488355328) (hBw : B ≤ w.heap.size) :
    Calls Tryd.prog 36 #[.pointer (some ⟨b, 0, none⟩), .slice (some ⟨g0, 0, none⟩) m c] w fun e w' => e = .returned (.tuple #[.int .i64 m, .nilIface]) ∧ BQ' B b q (l ++ t) w w' := by
  subst hm
  obtain ⟨i0, hi, hz0, hz1, hz2⟩ := info_parts bld_byte
  have hB := h.1
  have hqb := h.2.1
  have hq := h.2.2.1
  have CC := Lib.hid (copyCheckQ B b q l w h)
  have HT := Lib.hid hT
  clear h hT
  go_enter Tryd.func36, Tryd.ntmps36
  go_wp2_with (go_at_call 51; refine (Calls.mono CC.out ?_))
  rintro e w1 ⟨rfl, ⟨v, hbk, hown, hne, hnq⟩, hb1, hk1, hs1⟩
  have HK := Lib.hid hk1; clear hk1
  have HS1 := Lib.hid hs1; clear hs1
  have c0 : w1.cell? ⟨b, 0, none⟩ = some (.pointer (some ⟨b, 0, none⟩)) := by rw [Lib.cell_of_heap hbk]; rfl
  have c1 : w1.cell? ⟨b, 1, none⟩ = some v := by rw [Lib.cell_of_heap hbk]; rfl
  go_wp2_with (at_builtin; refine wpList_append_own_at _ rfl _ _ 72 rfl B 5 i0 (.int .u8 0) 1 1 Tryd.underlying72 hi hz0 hz1 hz2 rfl (by decide) _ _ _ rfl hown ⟨g0, 0, none⟩ t.length c (byteVals t) rfl ?c0 ?c1 ?c2 ?c3 ?c4 ?c5 ?_)
  case c0 => rw [byteVals_len]; omega
  case c1 =>
    intro j u hj
    rw [← HT.out j u hj]
    exact World.cell?_of_block (by rw [add_plain]; exact HK.out g0 hdis)
  case c2 => intro u hu; simp [byteVals] at hu; obtain ⟨x, _, rfl⟩ := hu; rfl
  case c3 => unfold maxLen; omega
  case c4 => omega
  case c5 => have := HS1.out; omega
  intro v' w2 hown' hgrow _ hloc
  have hlt : b < w1.heap.size := blk_lt hbk
  have hb2 : w2.heap[b]? = some (.cells #[.pointer (some ⟨b, 0, none⟩), v] 74 (0, 0)) := by
    rw [hgrow.block b hlt (fun e => hne e.symm)]
    exact hbk
  have hs1 := HS1.out
  have hq2 : w2.heap[q]? = w.heap[q]? := by
    rw [hgrow.block q (by omega) (fun e => hnq e.symm), HK.out q hqb]
  have HQ2 := Lib.hid hq2; clear hq2 hs1
  have HL := Lib.hid hloc; clear hloc
  have d0 : w2.cell? ⟨b, 0, none⟩ = some (.pointer (some ⟨b, 0, none⟩)) := by rw [Lib.cell_of_heap hb2]; rfl
  have d1 : w2.cell? ⟨b, 1, none⟩ = some v := by rw [Lib.cell_of_heap hb2]; rfl
  have f1 : w2.frozen? ⟨b, 1, none⟩ = false := Lib.frozen_of_heap hb2 1
  obtain ⟨g, cap, rfl⟩ : ∃ g cap, v' = .slice (some ⟨g, 0, none⟩) (l.length + t.length) cap := by
    rcases hown'.2 with ⟨_, h0⟩ | ⟨g, cap, cur, hv, _⟩
    · omega
    · exact ⟨g, cap, hv⟩
  go_wp2
  go_ret2
  have hp := Lib.BuilderAt.put (T := 74) (e := 5) hB hb2 (bs' := byteVals (l ++ t)) (by rw [byteVals_app, List.length_append, byteVals_len, byteVals_len]; exact hown') (by decide)
  obtain ⟨_, v2, hv2, ho2, hn2⟩ := hp
  have hv2e : v2 = .slice (some ⟨g, 0, none⟩) (l.length + t.length) cap := by
    have : (w2.setCell ⟨b, 1, none⟩ (.slice (some ⟨g, 0, none⟩) (l.length + t.length) cap)).heap[b]? = some (.cells #[.pointer (some ⟨b, 0, none⟩), .slice (some ⟨g, 0, none⟩) (l.length + t.length) cap] 74 (0, 0)) := by
      simp [World.setCell, Array.getElem?_modify, hb2]
    rw [this] at hv2
    simp at hv2
    exact hv2.symm
  subst hv2e
  rw [byteVals_len] at ho2
  have hs2 := hgrow.size
  have hs1 := HS1.out
  refine ⟨rfl, ⟨hB, hqb, by simp [World.setCell]; omega, _, _, .inr rfl, hv2, ho2, hn2, ?_⟩, ?_, ?_⟩
  · rcases HL.out with e | e
    · rw [e]; exact hnq
    · rw [e]; intro e'; injection e' with e'; omega
  · exact (hb1.grown hgrow (by have := hb1.size; omega) (fun k hk => (hown.lt k hk).1)).setCell (p := ⟨b, 1, none⟩) hB _
  · rw [Below.heap_setCell w2 ⟨b, 1, none⟩ _ q (fun e => hqb e)]; exact HQ2.out

end Go.Proofs.YtjnedbkbhoiopaaDoor
