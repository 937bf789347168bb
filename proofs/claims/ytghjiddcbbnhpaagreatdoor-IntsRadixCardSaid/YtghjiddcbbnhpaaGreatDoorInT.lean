/- The reference of chapter 05: digit, times, over; no statement of the seat is proved here. -/
import Derived.Test.YtghjiddcbbnhpaaGreatDoorInF
import Derived.LoopN
import Derived.Outline
namespace Go.Proofs.YtghjiddcbbnhpaaGreatDoor
open Go.RowKit

theorem dig_ref : ∀ c : UInt8, (48 ≤ c.toNat ∧ c.toNat ≤ 57 ∧ digV c = c.toNat - 48) ∨ (97 ≤ c.toNat ∧ c.toNat ≤ 102 ∧ digV c = c.toNat - 87) ∨ (65 ≤ c.toNat ∧ c.toNat ≤ 70 ∧ digV c = c.toNat - 55) ∨
    ((c.toNat < 48 ∨ 57 < c.toNat) ∧ (c.toNat < 97 ∨ 102 < c.toNat) ∧ (c.toNat < 65 ∨ 70 < c.toNat) ∧ 16 ≤ digV c) := u8_all (by decide +kernel)
/-- A digit of a base; below nought: none. -/
def digR (q : Nat) (c : UInt8) : Int := if digV c < q then (digV c : Int) else -1
set_option maxHeartbeats 2000000 in
theorem digit_is (c : UInt8) (q : Nat) (hq : Base4 q) (w : World) : Calls Tryz.prog 28 #[.int .u8 (c.toNat : Int), .int .i64 (q : Int)] w fun e w' => e = .returned (.int .i64 (digR q c)) ∧ w = w' := by
  have hx := c.toNat_lt
  have hq2 : 2 ≤ q ∧ q ≤ 16 := by unfold Base4 at hq; omega
  obtain ⟨b1, h1⟩ : ∃ b, decide ((48 : Int) ≤ (c.toNat : Int)) = b := ⟨_, rfl⟩
  obtain ⟨b2, h2⟩ : ∃ b, decide ((c.toNat : Int) ≤ 57) = b := ⟨_, rfl⟩
  obtain ⟨b3, h3⟩ : ∃ b, decide ((97 : Int) ≤ (c.toNat : Int)) = b := ⟨_, rfl⟩
  obtain ⟨b4, h4⟩ : ∃ b, decide ((c.toNat : Int) ≤ 102) = b := ⟨_, rfl⟩
  obtain ⟨b5, h5⟩ : ∃ b, decide ((65 : Int) ≤ (c.toNat : Int)) = b := ⟨_, rfl⟩
  obtain ⟨b6, h6⟩ : ∃ b, decide ((c.toNat : Int) ≤ 70) = b := ⟨_, rfl⟩
  rcases dig_ref c with ⟨x1, x2, x3⟩ | ⟨x1, x2, x3⟩ | ⟨x1, x2, x3⟩ | ⟨x1, x2, x3, x4⟩
  · by_cases hc : digV c < q
    · have HR : Hid (digR q c = (c.toNat : Int) - 48) := by show _ = _; unfold digR; rw [if_pos hc]; omega
      have bq : decide ((q : Int) ≤ (c.toNat : Int) - 48) = false := decide_eq_false (by omega)
      have k1 : decide ((48 : Int) ≤ (c.toNat : Int)) = true := decide_eq_true (by omega)
      have k2 : decide ((c.toNat : Int) ≤ 57) = true := decide_eq_true (by omega)
      have k3 : decide ((97 : Int) ≤ (c.toNat : Int)) = false := decide_eq_false (by omega)
      have k4 : decide ((c.toNat : Int) ≤ 102) = true := decide_eq_true (by omega)
      have k5 : decide ((65 : Int) ≤ (c.toNat : Int)) = false := decide_eq_false (by omega)
      have k6 : decide ((c.toNat : Int) ≤ 70) = true := decide_eq_true (by omega)
      clear h1 h2 h3 h4 h5 h6 hc x3 hq
      go_enter Tryz.func28, Tryz.ntmps28
      go_wp2
      go_ret
      exact ⟨ret_int (by rw [HR.out]), rfl⟩
    · have HR : Hid (digR q c = -1) := by show _ = _; unfold digR; rw [if_neg hc]
      have bq : decide ((q : Int) ≤ (c.toNat : Int) - 48) = true := decide_eq_true (by omega)
      have k1 : decide ((48 : Int) ≤ (c.toNat : Int)) = true := decide_eq_true (by omega)
      have k2 : decide ((c.toNat : Int) ≤ 57) = true := decide_eq_true (by omega)
      have k3 : decide ((97 : Int) ≤ (c.toNat : Int)) = false := decide_eq_false (by omega)
      have k4 : decide ((c.toNat : Int) ≤ 102) = true := decide_eq_true (by omega)
      have k5 : decide ((65 : Int) ≤ (c.toNat : Int)) = false := decide_eq_false (by omega)
      have k6 : decide ((c.toNat : Int) ≤ 70) = true := decide_eq_true (by omega)
      clear h1 h2 h3 h4 h5 h6 hc x3 hq
      go_enter Tryz.func28, Tryz.ntmps28
      go_wp2
      go_ret
      exact ⟨ret_int (by rw [HR.out]), rfl⟩
  · by_cases hc : digV c < q
    · have HR : Hid (digR q c = (c.toNat : Int) - 97 + 10) := by show _ = _; unfold digR; rw [if_pos hc]; omega
      have bq : decide ((q : Int) ≤ (c.toNat : Int) - 97 + 10) = false := decide_eq_false (by omega)
      have k1 : decide ((48 : Int) ≤ (c.toNat : Int)) = true := decide_eq_true (by omega)
      have k2 : decide ((c.toNat : Int) ≤ 57) = false := decide_eq_false (by omega)
      have k3 : decide ((97 : Int) ≤ (c.toNat : Int)) = true := decide_eq_true (by omega)
      have k4 : decide ((c.toNat : Int) ≤ 102) = true := decide_eq_true (by omega)
      have k5 : decide ((65 : Int) ≤ (c.toNat : Int)) = true := decide_eq_true (by omega)
      have k6 : decide ((c.toNat : Int) ≤ 70) = false := decide_eq_false (by omega)
      clear h1 h2 h3 h4 h5 h6 hc x3 hq
      go_enter Tryz.func28, Tryz.ntmps28
      go_wp2
      go_ret
      exact ⟨ret_int (by rw [HR.out]), rfl⟩
    · have HR : Hid (digR q c = -1) := by show _ = _; unfold digR; rw [if_neg hc]
      have bq : decide ((q : Int) ≤ (c.toNat : Int) - 97 + 10) = true := decide_eq_true (by omega)
      have k1 : decide ((48 : Int) ≤ (c.toNat : Int)) = true := decide_eq_true (by omega)
      have k2 : decide ((c.toNat : Int) ≤ 57) = false := decide_eq_false (by omega)
      have k3 : decide ((97 : Int) ≤ (c.toNat : Int)) = true := decide_eq_true (by omega)
      have k4 : decide ((c.toNat : Int) ≤ 102) = true := decide_eq_true (by omega)
      have k5 : decide ((65 : Int) ≤ (c.toNat : Int)) = true := decide_eq_true (by omega)
      have k6 : decide ((c.toNat : Int) ≤ 70) = false := decide_eq_false (by omega)
      clear h1 h2 h3 h4 h5 h6 hc x3 hq
      go_enter Tryz.func28, Tryz.ntmps28
      go_wp2
      go_ret
      exact ⟨ret_int (by rw [HR.out]), rfl⟩
  · by_cases hc : digV c < q
    · have HR : Hid (digR q c = (c.toNat : Int) - 65 + 10) := by show _ = _; unfold digR; rw [if_pos hc]; omega
      have bq : decide ((q : Int) ≤ (c.toNat : Int) - 65 + 10) = false := decide_eq_false (by omega)
      have k1 : decide ((48 : Int) ≤ (c.toNat : Int)) = true := decide_eq_true (by omega)
      have k2 : decide ((c.toNat : Int) ≤ 57) = false := decide_eq_false (by omega)
      have k3 : decide ((97 : Int) ≤ (c.toNat : Int)) = false := decide_eq_false (by omega)
      have k4 : decide ((c.toNat : Int) ≤ 102) = true := decide_eq_true (by omega)
      have k5 : decide ((65 : Int) ≤ (c.toNat : Int)) = true := decide_eq_true (by omega)
      have k6 : decide ((c.toNat : Int) ≤ 70) = true := decide_eq_true (by omega)
      clear h1 h2 h3 h4 h5 h6 hc x3 hq
      go_enter Tryz.func28, Tryz.ntmps28
      go_wp2
      go_ret
      exact ⟨ret_int (by rw [HR.out]), rfl⟩
    · have HR : Hid (digR q c = -1) := by show _ = _; unfold digR; rw [if_neg hc]
      have bq : decide ((q : Int) ≤ (c.toNat : Int) - 65 + 10) = true := decide_eq_true (by omega)
      have k1 : decide ((48 : Int) ≤ (c.toNat : Int)) = true := decide_eq_true (by omega)
      have k2 : decide ((c.toNat : Int) ≤ 57) = false := decide_eq_false (by omega)
      have k3 : decide ((97 : Int) ≤ (c.toNat : Int)) = false := decide_eq_false (by omega)
      have k4 : decide ((c.toNat : Int) ≤ 102) = true := decide_eq_true (by omega)
      have k5 : decide ((65 : Int) ≤ (c.toNat : Int)) = true := decide_eq_true (by omega)
      have k6 : decide ((c.toNat : Int) ≤ 70) = true := decide_eq_true (by omega)
      clear h1 h2 h3 h4 h5 h6 hc x3 hq
      go_enter Tryz.func28, Tryz.ntmps28
      go_wp2
      go_ret
      exact ⟨ret_int (by rw [HR.out]), rfl⟩
  · have HR : Hid (digR q c = -1) := by show _ = _; unfold digR; rw [if_neg (by omega)]
    clear hq x4
    have bq : decide ((q : Int) ≤ -1) = false := decide_eq_false (by omega)
    clear h1 h2 h3 h4 h5 h6
    rcases x1 with x1 | x1 <;> rcases x2 with x2 | x2 <;> rcases x3 with x3 | x3
    · have k1 : decide ((48 : Int) ≤ (c.toNat : Int)) = false := decide_eq_false (by omega)
      have k3 : decide ((97 : Int) ≤ (c.toNat : Int)) = false := decide_eq_false (by omega)
      have k5 : decide ((65 : Int) ≤ (c.toNat : Int)) = false := decide_eq_false (by omega)
      go_enter Tryz.func28, Tryz.ntmps28
      go_wp2
      go_ret
      exact ⟨ret_int (by rw [HR.out]), rfl⟩
    · omega
    · omega
    · omega
    · have k1 : decide ((48 : Int) ≤ (c.toNat : Int)) = true := decide_eq_true (by omega)
      have k2 : decide ((c.toNat : Int) ≤ 57) = false := decide_eq_false (by omega)
      have k3 : decide ((97 : Int) ≤ (c.toNat : Int)) = false := decide_eq_false (by omega)
      have k5 : decide ((65 : Int) ≤ (c.toNat : Int)) = false := decide_eq_false (by omega)
      go_enter Tryz.func28, Tryz.ntmps28
      go_wp2
      go_ret
      exact ⟨ret_int (by rw [HR.out]), rfl⟩
    · have k1 : decide ((48 : Int) ≤ (c.toNat : Int)) = true := decide_eq_true (by omega)
      have k2 : decide ((c.toNat : Int) ≤ 57) = false := decide_eq_false (by omega)
      have k3 : decide ((97 : Int) ≤ (c.toNat : Int)) = false := decide_eq_false (by omega)
      have k5 : decide ((65 : Int) ≤ (c.toNat : Int)) = true := decide_eq_true (by omega)
      have k6 : decide ((c.toNat : Int) ≤ 70) = false := decide_eq_false (by omega)
      go_enter Tryz.func28, Tryz.ntmps28
      go_wp2
      go_ret
      exact ⟨ret_int (by rw [HR.out]), rfl⟩
    · omega
    · have k1 : decide ((48 : Int) ≤ (c.toNat : Int)) = true := decide_eq_true (by omega)
      have k2 : decide ((c.toNat : Int) ≤ 57) = false := decide_eq_false (by omega)
      have k3 : decide ((97 : Int) ≤ (c.toNat : Int)) = true := decide_eq_true (by omega)
      have k4 : decide ((c.toNat : Int) ≤ 102) = false := decide_eq_false (by omega)
      have k5 : decide ((65 : Int) ≤ (c.toNat : Int)) = true := decide_eq_true (by omega)
      have k6 : decide ((c.toNat : Int) ≤ 70) = false := decide_eq_false (by omega)
      go_enter Tryz.func28, Tryz.ntmps28
      go_wp2
      go_ret
      exact ⟨ret_int (by rw [HR.out]), rfl⟩

theorem cell_lt {w : World} {p : Addr} {v : Value} (h : w.cell? p = some v) : p.block < w.heap.size := by
  rcases Nat.lt_or_ge p.block w.heap.size with h1 | h1
  · exact h1
  · unfold World.cell? at h; rw [Array.getElem?_eq_none h1] at h; cases h
/-- A row of bytes of the call's own. -/
def BW (w : World) (N : Nat) (l : List UInt8) : Prop := ∀ k (h : k < l.length), w.cell? ⟨N, k, none⟩ = some (.int .u8 (l[k].toNat : Int)) ∧ w.frozen? ⟨N, k, none⟩ = false
theorem BW.made (w : World) (e : TypeId) (s : ByteArray) : BW (Lib.bytesWorld w e s) w.heap.size s.data.toList := by
  intro k hk
  have hk' : k < s.size := hk
  refine ⟨?_, ?_⟩
  · rw [Lib.bytesWorld_cell w e s k hk']
    rw [List.getD_eq_getElem?_getD, List.getElem?_eq_getElem hk]; rfl
  · have h1 := Lib.bytesWorld_at_new w e s
    have h2 : k < (Lib.bytesCells w e s).size := by unfold Lib.bytesCells; simp; have := hk; simp at this; omega
    unfold World.frozen?
    simp only [h1]
    simp
    omega
theorem BW.bs {w : World} {N : Nat} {l : List UInt8} (h : BW w N l) {B : Nat} (hB : N < B) : BS w B (some ⟨N, 0, none⟩) l := BS.of_cells hB fun k hk => by rw [add_plain, Nat.zero_add]; exact (h k hk).1
theorem BW.set {w : World} {N : Nat} {l : List UInt8} (h : BW w N l) (k : Nat) (b : UInt8) : BW (w.setCell ⟨N, k, none⟩ (.int .u8 (b.toNat : Int))) N (l.set k b) := by
  intro i hi
  rw [List.length_set] at hi
  refine ⟨?_, by rw [World.frozen?_setCell]; exact (h i hi).2⟩
  by_cases e : k = i
  · subst e
    rw [World.cell?_setCell_same _ _ _ (h k hi).1]
    simp
  · rw [World.cell?_setCell_other _ _ _ _ (by intro h; injection h with _ h; exact e h), (h i hi).1, List.getElem_set_ne e]
theorem set_mid (a b : List UInt8) (x y : UInt8) (k : Nat) (hk : k = a.length) : (a ++ x :: b).set k y = a ++ y :: b := by
  subst hk; simp
theorem mul_step {q d : Nat} {l : List UInt8} {k : Nat} (hk : k < l.length) :
    (l.take k ++ (mulL q d (l.drop k)).1) = (l.take (k + 1) ++ (mulL q d (l.drop (k + 1))).1).set k (UInt8.ofNat (48 + ((mulL q d (l.drop (k + 1))).2 + q * (l[k].toNat - 48)) % 10)) ∧
    (mulL q d (l.drop k)).2 = ((mulL q d (l.drop (k + 1))).2 + q * (l[k].toNat - 48)) / 10 := by
  rw [List.drop_eq_getElem_cons hk, mulL]
  refine ⟨?_, rfl⟩
  rw [List.take_succ_eq_append_getElem hk, List.append_assoc, List.singleton_append, set_mid _ _ _ _ _ (by simp; omega)]
theorem dg_sub (x : UInt8) (h : dgB x = true) : IntKind.u8.wrap ((x.toNat : Int) - 48) = ((x.toNat - 48 : Nat) : Int) := by
  have := dgB_t.1 h
  show ((x.toNat : Int) - 48) % 256 = _
  omega
theorem one_conv (w : World) (z : Int) (b : UInt8) (hz : z = (b.toNat : Int)) :
    (convert 61 9 (.slice (some ⟨w.heap.size, 0, none⟩) 1 1)).run Tryz.prog (w.alloc (.cells #[.int .u8 z] 5)) = .ok (.string ⟨#[b]⟩) (w.alloc (.cells #[.int .u8 z] 5)) := by
  have hB : BS (w.alloc (.cells #[.int .u8 z] 5)) (w.heap.size + 1) (some ⟨w.heap.size, 0, none⟩) [b] := BS.of_cells (by simp) fun k hk => by
    have : k = 0 := by simp at hk; omega
    subst this
    rw [add_plain, Nat.zero_add]
    have := blk_cell (heap_new1 w (.cells #[.int .u8 z] 5)) 0
    rw [this, hz]; rfl
  exact conv_bs (P := Tryz.prog) _ 61 9 5 Tryz.underlying61 Tryz.underlying5 Tryz.underlying9 hB 1
theorem headD_len {e : Nat} (h : e < 16) : (headD e).length ≤ 2 := by
  have h : ∀ e < 16, (headD e).length ≤ 2 := by
    intro e he
    unfold headD
    split
    · simp
    · rw [Lib.decDigits_length]
      by_cases h10 : e < 10
      · rw [Lib.nDigits_small h10]; omega
      · rw [Lib.nDigits_big h10, Lib.nDigits_small (by omega)]; omega
  exact h e (by assumption)
theorem strip_step {T D : ByteArray} {l : List UInt8} (h : T.data.toList = 48 :: D.data.toList) (h0 : D.data.toList ≠ []) (hs : stripZ T.data.toList = l) : stripZ D.data.toList = l := by
  rw [h, stripZ, if_pos ⟨rfl, h0⟩] at hs; exact hs
theorem strip_end {T : ByteArray} (h : T.size ≤ 1 ∨ ∃ h : 0 < T.size, T[0].toNat ≠ 48) : stripZ T.data.toList = T.data.toList := by
  cases hl : T.data.toList with
  | nil => rfl
  | cons c l =>
    rw [stripZ, if_neg]
    rintro ⟨e1, e2⟩
    rcases h with h | ⟨h, h2⟩
    · rw [← size_list, hl] at h
      exact e2 (List.length_eq_zero_iff.1 (by simp at h; simp [h]))
    · rw [get0 hl h, e1] at h2
      exact h2 rfl


set_option maxRecDepth 100000 in
set_option maxHeartbeats 4000000 in
theorem times_2 (s t : ByteArray) (d : Nat) (hs : s.size ≤ 1000000) (hd : d < 16) (hdg : ∀ c ∈ s.data.toList, dgB c = true) (ht : t.data.toList = timesL 2 d s.data.toList) (w : World) :
    Calls Tryz.prog 29 #[.string s, .int .i64 2, .int .i64 (d : Int)] w fun e w' => e = .returned (.string t) ∧ Below w.heap.size w w' := by
  obtain ⟨cap, hcap⟩ : ∃ c, grownCap w s.size 0 5 = c := ⟨_, rfl⟩
  have hrun := Lib.run_convert_string_bytes (P := Tryz.prog) w 9 61 5 s Tryz.underlying9 Tryz.underlying61 Tryz.underlying5
  rw [hcap] at hrun
  have HB0 : Hid (BW (Lib.bytesWorld w 5 s) w.heap.size s.data.toList) := BW.made w _ s
  have HL0 := Lib.hid (Lib.bytesWorld_below w 5 s)
  generalize Lib.bytesWorld w 5 s = w1 at hrun HB0 HL0
  clear hcap
  have HD := Lib.hid hdg
  have HT := Lib.hid ht
  clear hdg ht
  have hsl := size_list s
  go_enter Tryz.func29, Tryz.ntmps29
  go_wp2_with fail
  clear hrun
  go_loopg [2, 8] (s.size) (fun g s2 s8 wr => ∃ k e : Nat, ∃ z : Int, s8 = .int .i64 z ∧ Hid (z = (k : Int) - 1) ∧ s2 = .int .i64 (e : Int) ∧ k ≤ s.size ∧ e < 16 ∧ Hid (g = k) ∧ Hid (e = (mulL 2 d (s.data.toList.drop k)).2) ∧ Hid (BW wr w.heap.size (s.data.toList.take k ++ (mulL 2 d (s.data.toList.drop k)).1)) ∧ Hid (Below w.heap.size w wr))
  case atStart => exact ⟨s.size, d, _, rfl, rfl, rfl, Nat.le_refl _, hd, rfl, by show _ = _; rw [List.drop_of_length_le (by omega)]; rfl, by show BW _ _ _; rw [List.drop_of_length_le (by omega), List.take_of_length_le (by omega)]; simpa [mulL] using HB0.out, HL0⟩
  case round =>
    obtain ⟨k, e, z, rfl, hz, rfl, hk, he, hg, hme, hbw, hlow⟩ := hrel
    by_cases hk0 : k = 0
    · have hz' := hz.out
      subst hk0
      obtain rfl : z = -1 := by omega
      clear hz hz'
      have hbw0 : Hid (BW wr w.heap.size (mulL 2 d s.data.toList).1) := by have := hbw.out; rwa [List.take_zero, List.drop_zero, List.nil_append] at this
      have hme0 : Hid (e = (mulL 2 d s.data.toList).2) := by have := hme.out; rwa [List.drop_zero] at this
      obtain ⟨ml, hml⟩ : ∃ m, (mulL 2 d s.data.toList).1 = m := ⟨_, rfl⟩
      have hmz : ml.length = s.size := by rw [← hml, mul_len]; rfl
      have HT2 : Hid (stripZ (headD e ++ ml) = t.data.toList) := by have := HT.out; rw [timesL, ← hme0.out, hml] at this; exact this.symm
      rw [hml] at hbw0
      clear hbw hme hme0 hml HD HT HB0 HL0 hg hk
      have hwlt : w.heap.size < wr.heap.size ∨ ml = [] := by
        cases ml with
        | nil => exact .inr rfl
        | cons x l => exact .inl (cell_lt (hbw0.out 0 (by simp)).1)
      go_wp2_with fail
      go_loopg [2, 9] (e) (fun g s2 s9 wx => ∃ (f : Nat) (h : ByteArray), s2 = .int .i64 (f : Int) ∧ s9 = .string h ∧ f < 16 ∧ Hid (g = f) ∧ Hid (headD f ++ h.data.toList = headD e) ∧ Hid (Below wr.heap.size wr wx))
      case atStart => exact ⟨e, ⟨#[]⟩, rfl, rfl, he, rfl, List.append_nil _, Below.refl _ _⟩
      case round =>
        obtain ⟨f, h, rfl, rfl, hf, hg, hh, hlx⟩ := hrel
        have hhz : h.size ≤ 2 := by
          have h1 := congrArg List.length hh.out
          rw [List.length_append, size_list] at h1
          have := headD_len he
          omega
        by_cases hf0 : f = 0
        · subst hf0
          have hh0 : h.data.toList = headD e := by have := hh.out; exact this
          have HBS : BS wr (w.heap.size + 1) (some ⟨w.heap.size, 0, none⟩) ml := BS.of_cells (by simp) fun k hk => by
            rw [add_plain, Nat.zero_add]
            have hne : ml ≠ [] := fun e => by rw [e] at hk; simp at hk
            exact (hlx.out.cell (p := ⟨w.heap.size, k, none⟩) (hwlt.resolve_right hne)).trans (hbw0.out k hk).1
          have hcv := conv_bs (P := Tryz.prog) wr 61 9 5 Tryz.underlying61 Tryz.underlying5 Tryz.underlying9 HBS cap
          rw [hmz] at hcv
          obtain ⟨M, hM⟩ : ∃ M : ByteArray, ⟨ml.toArray⟩ = M := ⟨_, rfl⟩
          rw [hM] at hcv
          have hMz : M.size = s.size := by rw [← hM, ← hmz]; rfl
          have HT3 : Hid (stripZ (h ++ M).data.toList = t.data.toList) := by
            have := HT2.out
            show _ = _
            rw [app_list, hh0, ← hM]; exact this
          have hTz : (h ++ M).size ≤ 1000002 := by rw [ByteArray.size_append]; omega
          clear HBS hh hh0 HT2 hbw0 hmz hM
          go_wp2_with fail
          clear hcv
          generalize h ++ M = T0 at HT3 hTz ⊢
          go_loopg [0] (T0.size) (fun g s0 wy => ∃ T : ByteArray, s0 = .string T ∧ wy = wr ∧ T.size ≤ 1000002 ∧ Hid (g = T.size) ∧ Hid (stripZ T.data.toList = t.data.toList))
          case atStart => exact ⟨T0, rfl, rfl, hTz, rfl, HT3⟩
          case round =>
            obtain ⟨T, rfl, rfl, hz, hg, hst⟩ := hrel
            by_cases hl : 1 < T.size
            · have bl : decide ((1 : Int) < (T.size : Int)) = true := decide_eq_true (by omega)
              have h0 : 0 < T.size := by omega
              have hx := T[0].toNat_lt
              by_cases h48 : T[0].toNat = 48
              · have g1 : ((T[0].toNat : Int) == 48) = true := by simp; omega
                obtain ⟨D, hD⟩ : ∃ D : ByteArray, T.data.toList = 48 :: D.data.toList := by
                  cases hl : T.data.toList with
                  | nil => rw [← size_list, hl] at h0; cases h0
                  | cons c l =>
                    have := get0 hl h0
                    have hc : c = 48 := by rw [← this]; exact UInt8.toNat_inj.1 h48
                    exact ⟨⟨l.toArray⟩, by rw [hc]⟩
                have hE := ext1 hD
                have hDz : T.size = D.size + 1 := by rw [← size_list, hD, List.length_cons, size_list]
                have HS' : Hid (stripZ D.data.toList = t.data.toList) := strip_step hD (fun e => by have := size_list D; rw [e] at this; simp at this; omega) hst.out
                clear hD h48
                go_wp2
                go_roundg (D.size)
                case measure => have := hg.out; omega
                case rel => exact ⟨D, by rw [← hDz, hE], rfl, by omega, rfl, HS'⟩
              · have g1 : ((T[0].toNat : Int) == 48) = false := by simp; omega
                have HF : Hid (T.data.toList = t.data.toList) := (strip_end (.inr ⟨h0, h48⟩)).symm.trans hst.out
                have hTt := str_eq HF.out
                clear h48 HF
                subst hTt
                go_wp2
                go_ret
                exact ⟨rfl, hlow.out.trans (hlx.out.mono hlow.out.size)⟩
            · have bl : decide ((1 : Int) < (T.size : Int)) = false := decide_eq_false (by omega)
              have HF : Hid (T.data.toList = t.data.toList) := (strip_end (.inl (by omega))).symm.trans hst.out
              have hTt := str_eq HF.out
              clear HF
              subst hTt
              go_wp2
              go_ret
              exact ⟨rfl, hlow.out.trans (hlx.out.mono hlow.out.size)⟩
        · obtain ⟨b, hb⟩ : ∃ b, UInt8.ofNat (48 + f % 10) = b := ⟨_, rfl⟩
          have hcv := one_conv wr (48 + (f : Int) % 10) b (by rw [← hb, (dgv_mod f).2]; omega)
          have bf : decide ((0 : Int) < (f : Int)) = true := decide_eq_true (by omega)
          have HN : Hid (headD (f / 10) ++ (⟨#[b]⟩ ++ h : ByteArray).data.toList = headD e) := by
            show _ = _
            have := hh.out
            rw [headD_step (by omega), hb] at this
            rw [app_list]; simpa using this
          clear hb hh
          go_wp2
          go_roundg (f / 10)
          case measure => have := hg.out; omega
          case rel => exact ⟨f / 10, ⟨#[b]⟩ ++ h, congrArg (Value.int .i64) (by omega), rfl, by omega, rfl, HN, hlx.out.trans ((below_new1 _ _).mono hlx.out.size)⟩
    · obtain ⟨j, rfl⟩ : ∃ j, k = j + 1 := ⟨k - 1, by omega⟩
      have hz' := hz.out
      obtain rfl : z = (j : Int) := by omega
      clear hz hz' hk0
      have hjl : j < s.data.toList.length := by omega
      have hst := mul_step (q := 2) (d := d) hjl
      have hxd := HD.out s.data.toList[j] (List.getElem_mem hjl)
      have hsub := dg_sub _ hxd
      have hx := dgB_t.1 hxd
      have hc := hbw.out j (by rw [List.length_append, List.length_take]; omega)
      obtain ⟨x, hxx⟩ : ∃ x, s.data.toList[j] = x := ⟨_, rfl⟩
      have hge : (s.data.toList.take (j + 1) ++ (mulL 2 d (s.data.toList.drop (j + 1))).1)[j]'(by rw [List.length_append, List.length_take]; omega) = x := by
        rw [List.getElem_append_left (by rw [List.length_take]; omega), List.getElem_take]; exact hxx
      rw [hge] at hc
      rw [hxx] at hsub hx hst
      obtain ⟨hc1, hc2⟩ := hc
      have HST := Lib.hid hst
      clear hst hxd hge hjl hxx
      obtain ⟨v, hv⟩ : ∃ v, x.toNat - 48 = v := ⟨_, rfl⟩
      rw [hv] at hsub
      have hv9 : v ≤ 9 := by omega
      have hb8 : Hid ((48 + ((e : Int) + 2 * (v : Int)) % 10) = ((UInt8.ofNat (48 + (e + 2 * v) % 10)).toNat : Int)) := by show _ = _; rw [(dgv_mod _).2]; omega
      rw [← hme.out, hv] at HST
      clear hv
      go_wp2
      rw [hb8.out]
      go_roundg j
      case measure => have := hg.out; omega
      case rel => exact ⟨j, (e + 2 * v) / 10, _, rfl, rfl, congrArg (Value.int .i64) (by omega), by omega, by omega, rfl, HST.out.2.symm, by show BW _ _ _; rw [HST.out.1]; exact hbw.out.set j _, hlow.out.setCell (p := ⟨w.heap.size, j, none⟩) (Nat.le_refl _) _⟩


set_option maxRecDepth 100000 in
set_option maxHeartbeats 4000000 in
theorem times_8 (s t : ByteArray) (d : Nat) (hs : s.size ≤ 1000000) (hd : d < 16) (hdg : ∀ c ∈ s.data.toList, dgB c = true) (ht : t.data.toList = timesL 8 d s.data.toList) (w : World) :
    Calls Tryz.prog 29 #[.string s, .int .i64 8, .int .i64 (d : Int)] w fun e w' => e = .returned (.string t) ∧ Below w.heap.size w w' := by
  obtain ⟨cap, hcap⟩ : ∃ c, grownCap w s.size 0 5 = c := ⟨_, rfl⟩
  have hrun := Lib.run_convert_string_bytes (P := Tryz.prog) w 9 61 5 s Tryz.underlying9 Tryz.underlying61 Tryz.underlying5
  rw [hcap] at hrun
  have HB0 : Hid (BW (Lib.bytesWorld w 5 s) w.heap.size s.data.toList) := BW.made w _ s
  have HL0 := Lib.hid (Lib.bytesWorld_below w 5 s)
  generalize Lib.bytesWorld w 5 s = w1 at hrun HB0 HL0
  clear hcap
  have HD := Lib.hid hdg
  have HT := Lib.hid ht
  clear hdg ht
  have hsl := size_list s
  go_enter Tryz.func29, Tryz.ntmps29
  go_wp2_with fail
  clear hrun
  go_loopg [2, 8] (s.size) (fun g s2 s8 wr => ∃ k e : Nat, ∃ z : Int, s8 = .int .i64 z ∧ Hid (z = (k : Int) - 1) ∧ s2 = .int .i64 (e : Int) ∧ k ≤ s.size ∧ e < 16 ∧ Hid (g = k) ∧ Hid (e = (mulL 8 d (s.data.toList.drop k)).2) ∧ Hid (BW wr w.heap.size (s.data.toList.take k ++ (mulL 8 d (s.data.toList.drop k)).1)) ∧ Hid (Below w.heap.size w wr))
  case atStart => exact ⟨s.size, d, _, rfl, rfl, rfl, Nat.le_refl _, hd, rfl, by show _ = _; rw [List.drop_of_length_le (by omega)]; rfl, by show BW _ _ _; rw [List.drop_of_length_le (by omega), List.take_of_length_le (by omega)]; simpa [mulL] using HB0.out, HL0⟩
  case round =>
    obtain ⟨k, e, z, rfl, hz, rfl, hk, he, hg, hme, hbw, hlow⟩ := hrel
    by_cases hk0 : k = 0
    · have hz' := hz.out
      subst hk0
      obtain rfl : z = -1 := by omega
      clear hz hz'
      have hbw0 : Hid (BW wr w.heap.size (mulL 8 d s.data.toList).1) := by have := hbw.out; rwa [List.take_zero, List.drop_zero, List.nil_append] at this
      have hme0 : Hid (e = (mulL 8 d s.data.toList).2) := by have := hme.out; rwa [List.drop_zero] at this
      obtain ⟨ml, hml⟩ : ∃ m, (mulL 8 d s.data.toList).1 = m := ⟨_, rfl⟩
      have hmz : ml.length = s.size := by rw [← hml, mul_len]; rfl
      have HT2 : Hid (stripZ (headD e ++ ml) = t.data.toList) := by have := HT.out; rw [timesL, ← hme0.out, hml] at this; exact this.symm
      rw [hml] at hbw0
      clear hbw hme hme0 hml HD HT HB0 HL0 hg hk
      have hwlt : w.heap.size < wr.heap.size ∨ ml = [] := by
        cases ml with
        | nil => exact .inr rfl
        | cons x l => exact .inl (cell_lt (hbw0.out 0 (by simp)).1)
      go_wp2_with fail
      go_loopg [2, 9] (e) (fun g s2 s9 wx => ∃ (f : Nat) (h : ByteArray), s2 = .int .i64 (f : Int) ∧ s9 = .string h ∧ f < 16 ∧ Hid (g = f) ∧ Hid (headD f ++ h.data.toList = headD e) ∧ Hid (Below wr.heap.size wr wx))
      case atStart => exact ⟨e, ⟨#[]⟩, rfl, rfl, he, rfl, List.append_nil _, Below.refl _ _⟩
      case round =>
        obtain ⟨f, h, rfl, rfl, hf, hg, hh, hlx⟩ := hrel
        have hhz : h.size ≤ 2 := by
          have h1 := congrArg List.length hh.out
          rw [List.length_append, size_list] at h1
          have := headD_len he
          omega
        by_cases hf0 : f = 0
        · subst hf0
          have hh0 : h.data.toList = headD e := by have := hh.out; exact this
          have HBS : BS wr (w.heap.size + 1) (some ⟨w.heap.size, 0, none⟩) ml := BS.of_cells (by simp) fun k hk => by
            rw [add_plain, Nat.zero_add]
            have hne : ml ≠ [] := fun e => by rw [e] at hk; simp at hk
            exact (hlx.out.cell (p := ⟨w.heap.size, k, none⟩) (hwlt.resolve_right hne)).trans (hbw0.out k hk).1
          have hcv := conv_bs (P := Tryz.prog) wr 61 9 5 Tryz.underlying61 Tryz.underlying5 Tryz.underlying9 HBS cap
          rw [hmz] at hcv
          obtain ⟨M, hM⟩ : ∃ M : ByteArray, ⟨ml.toArray⟩ = M := ⟨_, rfl⟩
          rw [hM] at hcv
          have hMz : M.size = s.size := by rw [← hM, ← hmz]; rfl
          have HT3 : Hid (stripZ (h ++ M).data.toList = t.data.toList) := by
            have := HT2.out
            show _ = _
            rw [app_list, hh0, ← hM]; exact this
          have hTz : (h ++ M).size ≤ 1000002 := by rw [ByteArray.size_append]; omega
          clear HBS hh hh0 HT2 hbw0 hmz hM
          go_wp2_with fail
          clear hcv
          generalize h ++ M = T0 at HT3 hTz ⊢
          go_loopg [0] (T0.size) (fun g s0 wy => ∃ T : ByteArray, s0 = .string T ∧ wy = wr ∧ T.size ≤ 1000002 ∧ Hid (g = T.size) ∧ Hid (stripZ T.data.toList = t.data.toList))
          case atStart => exact ⟨T0, rfl, rfl, hTz, rfl, HT3⟩
          case round =>
            obtain ⟨T, rfl, rfl, hz, hg, hst⟩ := hrel
            by_cases hl : 1 < T.size
            · have bl : decide ((1 : Int) < (T.size : Int)) = true := decide_eq_true (by omega)
              have h0 : 0 < T.size := by omega
              have hx := T[0].toNat_lt
              by_cases h48 : T[0].toNat = 48
              · have g1 : ((T[0].toNat : Int) == 48) = true := by simp; omega
                obtain ⟨D, hD⟩ : ∃ D : ByteArray, T.data.toList = 48 :: D.data.toList := by
                  cases hl : T.data.toList with
                  | nil => rw [← size_list, hl] at h0; cases h0
                  | cons c l =>
                    have := get0 hl h0
                    have hc : c = 48 := by rw [← this]; exact UInt8.toNat_inj.1 h48
                    exact ⟨⟨l.toArray⟩, by rw [hc]⟩
                have hE := ext1 hD
                have hDz : T.size = D.size + 1 := by rw [← size_list, hD, List.length_cons, size_list]
                have HS' : Hid (stripZ D.data.toList = t.data.toList) := strip_step hD (fun e => by have := size_list D; rw [e] at this; simp at this; omega) hst.out
                clear hD h48
                go_wp2
                go_roundg (D.size)
                case measure => have := hg.out; omega
                case rel => exact ⟨D, by rw [← hDz, hE], rfl, by omega, rfl, HS'⟩
              · have g1 : ((T[0].toNat : Int) == 48) = false := by simp; omega
                have HF : Hid (T.data.toList = t.data.toList) := (strip_end (.inr ⟨h0, h48⟩)).symm.trans hst.out
                have hTt := str_eq HF.out
                clear h48 HF
                subst hTt
                go_wp2
                go_ret
                exact ⟨rfl, hlow.out.trans (hlx.out.mono hlow.out.size)⟩
            · have bl : decide ((1 : Int) < (T.size : Int)) = false := decide_eq_false (by omega)
              have HF : Hid (T.data.toList = t.data.toList) := (strip_end (.inl (by omega))).symm.trans hst.out
              have hTt := str_eq HF.out
              clear HF
              subst hTt
              go_wp2
              go_ret
              exact ⟨rfl, hlow.out.trans (hlx.out.mono hlow.out.size)⟩
        · obtain ⟨b, hb⟩ : ∃ b, UInt8.ofNat (48 + f % 10) = b := ⟨_, rfl⟩
          have hcv := one_conv wr (48 + (f : Int) % 10) b (by rw [← hb, (dgv_mod f).2]; omega)
          have bf : decide ((0 : Int) < (f : Int)) = true := decide_eq_true (by omega)
          have HN : Hid (headD (f / 10) ++ (⟨#[b]⟩ ++ h : ByteArray).data.toList = headD e) := by
            show _ = _
            have := hh.out
            rw [headD_step (by omega), hb] at this
            rw [app_list]; simpa using this
          clear hb hh
          go_wp2
          go_roundg (f / 10)
          case measure => have := hg.out; omega
          case rel => exact ⟨f / 10, ⟨#[b]⟩ ++ h, congrArg (Value.int .i64) (by omega), rfl, by omega, rfl, HN, hlx.out.trans ((below_new1 _ _).mono hlx.out.size)⟩
    · obtain ⟨j, rfl⟩ : ∃ j, k = j + 1 := ⟨k - 1, by omega⟩
      have hz' := hz.out
      obtain rfl : z = (j : Int) := by omega
      clear hz hz' hk0
      have hjl : j < s.data.toList.length := by omega
      have hst := mul_step (q := 8) (d := d) hjl
      have hxd := HD.out s.data.toList[j] (List.getElem_mem hjl)
      have hsub := dg_sub _ hxd
      have hx := dgB_t.1 hxd
      have hc := hbw.out j (by rw [List.length_append, List.length_take]; omega)
      obtain ⟨x, hxx⟩ : ∃ x, s.data.toList[j] = x := ⟨_, rfl⟩
      have hge : (s.data.toList.take (j + 1) ++ (mulL 8 d (s.data.toList.drop (j + 1))).1)[j]'(by rw [List.length_append, List.length_take]; omega) = x := by
        rw [List.getElem_append_left (by rw [List.length_take]; omega), List.getElem_take]; exact hxx
      rw [hge] at hc
      rw [hxx] at hsub hx hst
      obtain ⟨hc1, hc2⟩ := hc
      have HST := Lib.hid hst
      clear hst hxd hge hjl hxx
      obtain ⟨v, hv⟩ : ∃ v, x.toNat - 48 = v := ⟨_, rfl⟩
      rw [hv] at hsub
      have hv9 : v ≤ 9 := by omega
      have hb8 : Hid ((48 + ((e : Int) + 8 * (v : Int)) % 10) = ((UInt8.ofNat (48 + (e + 8 * v) % 10)).toNat : Int)) := by show _ = _; rw [(dgv_mod _).2]; omega
      rw [← hme.out, hv] at HST
      clear hv
      go_wp2
      rw [hb8.out]
      go_roundg j
      case measure => have := hg.out; omega
      case rel => exact ⟨j, (e + 8 * v) / 10, _, rfl, rfl, congrArg (Value.int .i64) (by omega), by omega, by omega, rfl, HST.out.2.symm, by show BW _ _ _; rw [HST.out.1]; exact hbw.out.set j _, hlow.out.setCell (p := ⟨w.heap.size, j, none⟩) (Nat.le_refl _) _⟩


set_option maxRecDepth 100000 in
set_option maxHeartbeats 4000000 in
theorem times_10 (s t : ByteArray) (d : Nat) (hs : s.size ≤ 1000000) (hd : d < 16) (hdg : ∀ c ∈ s.data.toList, dgB c = true) (ht : t.data.toList = timesL 10 d s.data.toList) (w : World) :
    Calls Tryz.prog 29 #[.string s, .int .i64 10, .int .i64 (d : Int)] w fun e w' => e = .returned (.string t) ∧ Below w.heap.size w w' := by
  obtain ⟨cap, hcap⟩ : ∃ c, grownCap w s.size 0 5 = c := ⟨_, rfl⟩
  have hrun := Lib.run_convert_string_bytes (P := Tryz.prog) w 9 61 5 s Tryz.underlying9 Tryz.underlying61 Tryz.underlying5
  rw [hcap] at hrun
  have HB0 : Hid (BW (Lib.bytesWorld w 5 s) w.heap.size s.data.toList) := BW.made w _ s
  have HL0 := Lib.hid (Lib.bytesWorld_below w 5 s)
  generalize Lib.bytesWorld w 5 s = w1 at hrun HB0 HL0
  clear hcap
  have HD := Lib.hid hdg
  have HT := Lib.hid ht
  clear hdg ht
  have hsl := size_list s
  go_enter Tryz.func29, Tryz.ntmps29
  go_wp2_with fail
  clear hrun
  go_loopg [2, 8] (s.size) (fun g s2 s8 wr => ∃ k e : Nat, ∃ z : Int, s8 = .int .i64 z ∧ Hid (z = (k : Int) - 1) ∧ s2 = .int .i64 (e : Int) ∧ k ≤ s.size ∧ e < 16 ∧ Hid (g = k) ∧ Hid (e = (mulL 10 d (s.data.toList.drop k)).2) ∧ Hid (BW wr w.heap.size (s.data.toList.take k ++ (mulL 10 d (s.data.toList.drop k)).1)) ∧ Hid (Below w.heap.size w wr))
  case atStart => exact ⟨s.size, d, _, rfl, rfl, rfl, Nat.le_refl _, hd, rfl, by show _ = _; rw [List.drop_of_length_le (by omega)]; rfl, by show BW _ _ _; rw [List.drop_of_length_le (by omega), List.take_of_length_le (by omega)]; simpa [mulL] using HB0.out, HL0⟩
  case round =>
    obtain ⟨k, e, z, rfl, hz, rfl, hk, he, hg, hme, hbw, hlow⟩ := hrel
    by_cases hk0 : k = 0
    · have hz' := hz.out
      subst hk0
      obtain rfl : z = -1 := by omega
      clear hz hz'
      have hbw0 : Hid (BW wr w.heap.size (mulL 10 d s.data.toList).1) := by have := hbw.out; rwa [List.take_zero, List.drop_zero, List.nil_append] at this
      have hme0 : Hid (e = (mulL 10 d s.data.toList).2) := by have := hme.out; rwa [List.drop_zero] at this
      obtain ⟨ml, hml⟩ : ∃ m, (mulL 10 d s.data.toList).1 = m := ⟨_, rfl⟩
      have hmz : ml.length = s.size := by rw [← hml, mul_len]; rfl
      have HT2 : Hid (stripZ (headD e ++ ml) = t.data.toList) := by have := HT.out; rw [timesL, ← hme0.out, hml] at this; exact this.symm
      rw [hml] at hbw0
      clear hbw hme hme0 hml HD HT HB0 HL0 hg hk
      have hwlt : w.heap.size < wr.heap.size ∨ ml = [] := by
        cases ml with
        | nil => exact .inr rfl
        | cons x l => exact .inl (cell_lt (hbw0.out 0 (by simp)).1)
      go_wp2_with fail
      go_loopg [2, 9] (e) (fun g s2 s9 wx => ∃ (f : Nat) (h : ByteArray), s2 = .int .i64 (f : Int) ∧ s9 = .string h ∧ f < 16 ∧ Hid (g = f) ∧ Hid (headD f ++ h.data.toList = headD e) ∧ Hid (Below wr.heap.size wr wx))
      case atStart => exact ⟨e, ⟨#[]⟩, rfl, rfl, he, rfl, List.append_nil _, Below.refl _ _⟩
      case round =>
        obtain ⟨f, h, rfl, rfl, hf, hg, hh, hlx⟩ := hrel
        have hhz : h.size ≤ 2 := by
          have h1 := congrArg List.length hh.out
          rw [List.length_append, size_list] at h1
          have := headD_len he
          omega
        by_cases hf0 : f = 0
        · subst hf0
          have hh0 : h.data.toList = headD e := by have := hh.out; exact this
          have HBS : BS wr (w.heap.size + 1) (some ⟨w.heap.size, 0, none⟩) ml := BS.of_cells (by simp) fun k hk => by
            rw [add_plain, Nat.zero_add]
            have hne : ml ≠ [] := fun e => by rw [e] at hk; simp at hk
            exact (hlx.out.cell (p := ⟨w.heap.size, k, none⟩) (hwlt.resolve_right hne)).trans (hbw0.out k hk).1
          have hcv := conv_bs (P := Tryz.prog) wr 61 9 5 Tryz.underlying61 Tryz.underlying5 Tryz.underlying9 HBS cap
          rw [hmz] at hcv
          obtain ⟨M, hM⟩ : ∃ M : ByteArray, ⟨ml.toArray⟩ = M := ⟨_, rfl⟩
          rw [hM] at hcv
          have hMz : M.size = s.size := by rw [← hM, ← hmz]; rfl
          have HT3 : Hid (stripZ (h ++ M).data.toList = t.data.toList) := by
            have := HT2.out
            show _ = _
            rw [app_list, hh0, ← hM]; exact this
          have hTz : (h ++ M).size ≤ 1000002 := by rw [ByteArray.size_append]; omega
          clear HBS hh hh0 HT2 hbw0 hmz hM
          go_wp2_with fail
          clear hcv
          generalize h ++ M = T0 at HT3 hTz ⊢
          go_loopg [0] (T0.size) (fun g s0 wy => ∃ T : ByteArray, s0 = .string T ∧ wy = wr ∧ T.size ≤ 1000002 ∧ Hid (g = T.size) ∧ Hid (stripZ T.data.toList = t.data.toList))
          case atStart => exact ⟨T0, rfl, rfl, hTz, rfl, HT3⟩
          case round =>
            obtain ⟨T, rfl, rfl, hz, hg, hst⟩ := hrel
            by_cases hl : 1 < T.size
            · have bl : decide ((1 : Int) < (T.size : Int)) = true := decide_eq_true (by omega)
              have h0 : 0 < T.size := by omega
              have hx := T[0].toNat_lt
              by_cases h48 : T[0].toNat = 48
              · have g1 : ((T[0].toNat : Int) == 48) = true := by simp; omega
                obtain ⟨D, hD⟩ : ∃ D : ByteArray, T.data.toList = 48 :: D.data.toList := by
                  cases hl : T.data.toList with
                  | nil => rw [← size_list, hl] at h0; cases h0
                  | cons c l =>
                    have := get0 hl h0
                    have hc : c = 48 := by rw [← this]; exact UInt8.toNat_inj.1 h48
                    exact ⟨⟨l.toArray⟩, by rw [hc]⟩
                have hE := ext1 hD
                have hDz : T.size = D.size + 1 := by rw [← size_list, hD, List.length_cons, size_list]
                have HS' : Hid (stripZ D.data.toList = t.data.toList) := strip_step hD (fun e => by have := size_list D; rw [e] at this; simp at this; omega) hst.out
                clear hD h48
                go_wp2
                go_roundg (D.size)
                case measure => have := hg.out; omega
                case rel => exact ⟨D, by rw [← hDz, hE], rfl, by omega, rfl, HS'⟩
              · have g1 : ((T[0].toNat : Int) == 48) = false := by simp; omega
                have HF : Hid (T.data.toList = t.data.toList) := (strip_end (.inr ⟨h0, h48⟩)).symm.trans hst.out
                have hTt := str_eq HF.out
                clear h48 HF
                subst hTt
                go_wp2
                go_ret
                exact ⟨rfl, hlow.out.trans (hlx.out.mono hlow.out.size)⟩
            · have bl : decide ((1 : Int) < (T.size : Int)) = false := decide_eq_false (by omega)
              have HF : Hid (T.data.toList = t.data.toList) := (strip_end (.inl (by omega))).symm.trans hst.out
              have hTt := str_eq HF.out
              clear HF
              subst hTt
              go_wp2
              go_ret
              exact ⟨rfl, hlow.out.trans (hlx.out.mono hlow.out.size)⟩
        · obtain ⟨b, hb⟩ : ∃ b, UInt8.ofNat (48 + f % 10) = b := ⟨_, rfl⟩
          have hcv := one_conv wr (48 + (f : Int) % 10) b (by rw [← hb, (dgv_mod f).2]; omega)
          have bf : decide ((0 : Int) < (f : Int)) = true := decide_eq_true (by omega)
          have HN : Hid (headD (f / 10) ++ (⟨#[b]⟩ ++ h : ByteArray).data.toList = headD e) := by
            show _ = _
            have := hh.out
            rw [headD_step (by omega), hb] at this
            rw [app_list]; simpa using this
          clear hb hh
          go_wp2
          go_roundg (f / 10)
          case measure => have := hg.out; omega
          case rel => exact ⟨f / 10, ⟨#[b]⟩ ++ h, congrArg (Value.int .i64) (by omega), rfl, by omega, rfl, HN, hlx.out.trans ((below_new1 _ _).mono hlx.out.size)⟩
    · obtain ⟨j, rfl⟩ : ∃ j, k = j + 1 := ⟨k - 1, by omega⟩
      have hz' := hz.out
      obtain rfl : z = (j : Int) := by omega
      clear hz hz' hk0
      have hjl : j < s.data.toList.length := by omega
      have hst := mul_step (q := 10) (d := d) hjl
      have hxd := HD.out s.data.toList[j] (List.getElem_mem hjl)
      have hsub := dg_sub _ hxd
      have hx := dgB_t.1 hxd
      have hc := hbw.out j (by rw [List.length_append, List.length_take]; omega)
      obtain ⟨x, hxx⟩ : ∃ x, s.data.toList[j] = x := ⟨_, rfl⟩
      have hge : (s.data.toList.take (j + 1) ++ (mulL 10 d (s.data.toList.drop (j + 1))).1)[j]'(by rw [List.length_append, List.length_take]; omega) = x := by
        rw [List.getElem_append_left (by rw [List.length_take]; omega), List.getElem_take]; exact hxx
      rw [hge] at hc
      rw [hxx] at hsub hx hst
      obtain ⟨hc1, hc2⟩ := hc
      have HST := Lib.hid hst
      clear hst hxd hge hjl hxx
      obtain ⟨v, hv⟩ : ∃ v, x.toNat - 48 = v := ⟨_, rfl⟩
      rw [hv] at hsub
      have hv9 : v ≤ 9 := by omega
      have hb8 : Hid ((48 + (e : Int) % 10) = ((UInt8.ofNat (48 + (e + 10 * v) % 10)).toNat : Int)) := by show _ = _; rw [(dgv_mod _).2]; omega
      rw [← hme.out, hv] at HST
      clear hv
      go_wp2
      rw [hb8.out]
      go_roundg j
      case measure => have := hg.out; omega
      case rel => exact ⟨j, (e + 10 * v) / 10, _, rfl, rfl, congrArg (Value.int .i64) (by omega), by omega, by omega, rfl, HST.out.2.symm, by show BW _ _ _; rw [HST.out.1]; exact hbw.out.set j _, hlow.out.setCell (p := ⟨w.heap.size, j, none⟩) (Nat.le_refl _) _⟩


set_option maxRecDepth 100000 in
set_option maxHeartbeats 4000000 in
theorem times_16 (s t : ByteArray) (d : Nat) (hs : s.size ≤ 1000000) (hd : d < 16) (hdg : ∀ c ∈ s.data.toList, dgB c = true) (ht : t.data.toList = timesL 16 d s.data.toList) (w : World) :
    Calls Tryz.prog 29 #[.string s, .int .i64 16, .int .i64 (d : Int)] w fun e w' => e = .returned (.string t) ∧ Below w.heap.size w w' := by
  obtain ⟨cap, hcap⟩ : ∃ c, grownCap w s.size 0 5 = c := ⟨_, rfl⟩
  have hrun := Lib.run_convert_string_bytes (P := Tryz.prog) w 9 61 5 s Tryz.underlying9 Tryz.underlying61 Tryz.underlying5
  rw [hcap] at hrun
  have HB0 : Hid (BW (Lib.bytesWorld w 5 s) w.heap.size s.data.toList) := BW.made w _ s
  have HL0 := Lib.hid (Lib.bytesWorld_below w 5 s)
  generalize Lib.bytesWorld w 5 s = w1 at hrun HB0 HL0
  clear hcap
  have HD := Lib.hid hdg
  have HT := Lib.hid ht
  clear hdg ht
  have hsl := size_list s
  go_enter Tryz.func29, Tryz.ntmps29
  go_wp2_with fail
  clear hrun
  go_loopg [2, 8] (s.size) (fun g s2 s8 wr => ∃ k e : Nat, ∃ z : Int, s8 = .int .i64 z ∧ Hid (z = (k : Int) - 1) ∧ s2 = .int .i64 (e : Int) ∧ k ≤ s.size ∧ e < 16 ∧ Hid (g = k) ∧ Hid (e = (mulL 16 d (s.data.toList.drop k)).2) ∧ Hid (BW wr w.heap.size (s.data.toList.take k ++ (mulL 16 d (s.data.toList.drop k)).1)) ∧ Hid (Below w.heap.size w wr))
  case atStart => exact ⟨s.size, d, _, rfl, rfl, rfl, Nat.le_refl _, hd, rfl, by show _ = _; rw [List.drop_of_length_le (by omega)]; rfl, by show BW _ _ _; rw [List.drop_of_length_le (by omega), List.take_of_length_le (by omega)]; simpa [mulL] using HB0.out, HL0⟩
  case round =>
    obtain ⟨k, e, z, rfl, hz, rfl, hk, he, hg, hme, hbw, hlow⟩ := hrel
    by_cases hk0 : k = 0
    · have hz' := hz.out
      subst hk0
      obtain rfl : z = -1 := by omega
      clear hz hz'
      have hbw0 : Hid (BW wr w.heap.size (mulL 16 d s.data.toList).1) := by have := hbw.out; rwa [List.take_zero, List.drop_zero, List.nil_append] at this
      have hme0 : Hid (e = (mulL 16 d s.data.toList).2) := by have := hme.out; rwa [List.drop_zero] at this
      obtain ⟨ml, hml⟩ : ∃ m, (mulL 16 d s.data.toList).1 = m := ⟨_, rfl⟩
      have hmz : ml.length = s.size := by rw [← hml, mul_len]; rfl
      have HT2 : Hid (stripZ (headD e ++ ml) = t.data.toList) := by have := HT.out; rw [timesL, ← hme0.out, hml] at this; exact this.symm
      rw [hml] at hbw0
      clear hbw hme hme0 hml HD HT HB0 HL0 hg hk
      have hwlt : w.heap.size < wr.heap.size ∨ ml = [] := by
        cases ml with
        | nil => exact .inr rfl
        | cons x l => exact .inl (cell_lt (hbw0.out 0 (by simp)).1)
      go_wp2_with fail
      go_loopg [2, 9] (e) (fun g s2 s9 wx => ∃ (f : Nat) (h : ByteArray), s2 = .int .i64 (f : Int) ∧ s9 = .string h ∧ f < 16 ∧ Hid (g = f) ∧ Hid (headD f ++ h.data.toList = headD e) ∧ Hid (Below wr.heap.size wr wx))
      case atStart => exact ⟨e, ⟨#[]⟩, rfl, rfl, he, rfl, List.append_nil _, Below.refl _ _⟩
      case round =>
        obtain ⟨f, h, rfl, rfl, hf, hg, hh, hlx⟩ := hrel
        have hhz : h.size ≤ 2 := by
          have h1 := congrArg List.length hh.out
          rw [List.length_append, size_list] at h1
          have := headD_len he
          omega
        by_cases hf0 : f = 0
        · subst hf0
          have hh0 : h.data.toList = headD e := by have := hh.out; exact this
          have HBS : BS wr (w.heap.size + 1) (some ⟨w.heap.size, 0, none⟩) ml := BS.of_cells (by simp) fun k hk => by
            rw [add_plain, Nat.zero_add]
            have hne : ml ≠ [] := fun e => by rw [e] at hk; simp at hk
            exact (hlx.out.cell (p := ⟨w.heap.size, k, none⟩) (hwlt.resolve_right hne)).trans (hbw0.out k hk).1
          have hcv := conv_bs (P := Tryz.prog) wr 61 9 5 Tryz.underlying61 Tryz.underlying5 Tryz.underlying9 HBS cap
          rw [hmz] at hcv
          obtain ⟨M, hM⟩ : ∃ M : ByteArray, ⟨ml.toArray⟩ = M := ⟨_, rfl⟩
          rw [hM] at hcv
          have hMz : M.size = s.size := by rw [← hM, ← hmz]; rfl
          have HT3 : Hid (stripZ (h ++ M).data.toList = t.data.toList) := by
            have := HT2.out
            show _ = _
            rw [app_list, hh0, ← hM]; exact this
          have hTz : (h ++ M).size ≤ 1000002 := by rw [ByteArray.size_append]; omega
          clear HBS hh hh0 HT2 hbw0 hmz hM
          go_wp2_with fail
          clear hcv
          generalize h ++ M = T0 at HT3 hTz ⊢
          go_loopg [0] (T0.size) (fun g s0 wy => ∃ T : ByteArray, s0 = .string T ∧ wy = wr ∧ T.size ≤ 1000002 ∧ Hid (g = T.size) ∧ Hid (stripZ T.data.toList = t.data.toList))
          case atStart => exact ⟨T0, rfl, rfl, hTz, rfl, HT3⟩
          case round =>
            obtain ⟨T, rfl, rfl, hz, hg, hst⟩ := hrel
            by_cases hl : 1 < T.size
            · have bl : decide ((1 : Int) < (T.size : Int)) = true := decide_eq_true (by omega)
              have h0 : 0 < T.size := by omega
              have hx := T[0].toNat_lt
              by_cases h48 : T[0].toNat = 48
              · have g1 : ((T[0].toNat : Int) == 48) = true := by simp; omega
                obtain ⟨D, hD⟩ : ∃ D : ByteArray, T.data.toList = 48 :: D.data.toList := by
                  cases hl : T.data.toList with
                  | nil => rw [← size_list, hl] at h0; cases h0
                  | cons c l =>
                    have := get0 hl h0
                    have hc : c = 48 := by rw [← this]; exact UInt8.toNat_inj.1 h48
                    exact ⟨⟨l.toArray⟩, by rw [hc]⟩
                have hE := ext1 hD
                have hDz : T.size = D.size + 1 := by rw [← size_list, hD, List.length_cons, size_list]
                have HS' : Hid (stripZ D.data.toList = t.data.toList) := strip_step hD (fun e => by have := size_list D; rw [e] at this; simp at this; omega) hst.out
                clear hD h48
                go_wp2
                go_roundg (D.size)
                case measure => have := hg.out; omega
                case rel => exact ⟨D, by rw [← hDz, hE], rfl, by omega, rfl, HS'⟩
              · have g1 : ((T[0].toNat : Int) == 48) = false := by simp; omega
                have HF : Hid (T.data.toList = t.data.toList) := (strip_end (.inr ⟨h0, h48⟩)).symm.trans hst.out
                have hTt := str_eq HF.out
                clear h48 HF
                subst hTt
                go_wp2
                go_ret
                exact ⟨rfl, hlow.out.trans (hlx.out.mono hlow.out.size)⟩
            · have bl : decide ((1 : Int) < (T.size : Int)) = false := decide_eq_false (by omega)
              have HF : Hid (T.data.toList = t.data.toList) := (strip_end (.inl (by omega))).symm.trans hst.out
              have hTt := str_eq HF.out
              clear HF
              subst hTt
              go_wp2
              go_ret
              exact ⟨rfl, hlow.out.trans (hlx.out.mono hlow.out.size)⟩
        · obtain ⟨b, hb⟩ : ∃ b, UInt8.ofNat (48 + f % 10) = b := ⟨_, rfl⟩
          have hcv := one_conv wr (48 + (f : Int) % 10) b (by rw [← hb, (dgv_mod f).2]; omega)
          have bf : decide ((0 : Int) < (f : Int)) = true := decide_eq_true (by omega)
          have HN : Hid (headD (f / 10) ++ (⟨#[b]⟩ ++ h : ByteArray).data.toList = headD e) := by
            show _ = _
            have := hh.out
            rw [headD_step (by omega), hb] at this
            rw [app_list]; simpa using this
          clear hb hh
          go_wp2
          go_roundg (f / 10)
          case measure => have := hg.out; omega
          case rel => exact ⟨f / 10, ⟨#[b]⟩ ++ h, congrArg (Value.int .i64) (by omega), rfl, by omega, rfl, HN, hlx.out.trans ((below_new1 _ _).mono hlx.out.size)⟩
    · obtain ⟨j, rfl⟩ : ∃ j, k = j + 1 := ⟨k - 1, by omega⟩
      have hz' := hz.out
      obtain rfl : z = (j : Int) := by omega
      clear hz hz' hk0
      have hjl : j < s.data.toList.length := by omega
      have hst := mul_step (q := 16) (d := d) hjl
      have hxd := HD.out s.data.toList[j] (List.getElem_mem hjl)
      have hsub := dg_sub _ hxd
      have hx := dgB_t.1 hxd
      have hc := hbw.out j (by rw [List.length_append, List.length_take]; omega)
      obtain ⟨x, hxx⟩ : ∃ x, s.data.toList[j] = x := ⟨_, rfl⟩
      have hge : (s.data.toList.take (j + 1) ++ (mulL 16 d (s.data.toList.drop (j + 1))).1)[j]'(by rw [List.length_append, List.length_take]; omega) = x := by
        rw [List.getElem_append_left (by rw [List.length_take]; omega), List.getElem_take]; exact hxx
      rw [hge] at hc
      rw [hxx] at hsub hx hst
      obtain ⟨hc1, hc2⟩ := hc
      have HST := Lib.hid hst
      clear hst hxd hge hjl hxx
      obtain ⟨v, hv⟩ : ∃ v, x.toNat - 48 = v := ⟨_, rfl⟩
      rw [hv] at hsub
      have hv9 : v ≤ 9 := by omega
      have hb8 : Hid ((48 + ((e : Int) + 16 * (v : Int)) % 10) = ((UInt8.ofNat (48 + (e + 16 * v) % 10)).toNat : Int)) := by show _ = _; rw [(dgv_mod _).2]; omega
      rw [← hme.out, hv] at HST
      clear hv
      go_wp2
      rw [hb8.out]
      go_roundg j
      case measure => have := hg.out; omega
      case rel => exact ⟨j, (e + 16 * v) / 10, _, rfl, rfl, congrArg (Value.int .i64) (by omega), by omega, by omega, rfl, HST.out.2.symm, by show BW _ _ _; rw [HST.out.1]; exact hbw.out.set j _, hlow.out.setCell (p := ⟨w.heap.size, j, none⟩) (Nat.le_refl _) _⟩


theorem times_is {q : Nat} (hq : Base4 q) (s t : ByteArray) (d : Nat) (hs : s.size ≤ 1000000) (hd : d < 16) (hdg : ∀ c ∈ s.data.toList, dgB c = true) (ht : t.data.toList = timesL q d s.data.toList) (w : World) :
    Calls Tryz.prog 29 #[.string s, .int .i64 (q : Int), .int .i64 (d : Int)] w fun e w' => e = .returned (.string t) ∧ Below w.heap.size w w' := by
  rcases hq with rfl | rfl | rfl | rfl
  · exact times_2 s t d hs hd hdg ht w
  · exact times_8 s t d hs hd hdg ht w
  · exact times_10 s t d hs hd hdg ht w
  · exact times_16 s t d hs hd hdg ht w
theorem over_is (a b : ByteArray) (v : Bool) (h : overL a.data.toList b.data.toList = v) (w : World) :
    Calls Tryz.prog 30 #[.string a, .string b] w fun e w' => e = .returned (.bool v) ∧ w = w' := by
  unfold overL at h
  rw [size_list, size_list] at h
  by_cases hz : a.size = b.size
  · have b1 : ((a.size : Int) == (b.size : Int)) = true := by simp; omega
    rw [if_neg (by simpa using hz), ← ByteArray.toList_eq, ← ByteArray.toList_eq] at h
    clear hz
    go_enter Tryz.func30, Tryz.ntmps30
    go_wp2
    go_ret
    exact ⟨ret_bool (by simp), rfl⟩
  · have b1 : ((a.size : Int) == (b.size : Int)) = false := by simp; omega
    rw [if_pos hz] at h
    clear hz
    go_enter Tryz.func30, Tryz.ntmps30
    go_wp2
    go_ret
    exact ⟨rfl, rfl⟩


end Go.Proofs.YtghjiddcbbnhpaaGreatDoor
