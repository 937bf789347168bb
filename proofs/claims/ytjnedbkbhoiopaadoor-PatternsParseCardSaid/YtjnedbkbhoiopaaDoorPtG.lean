/- Walks over package patterns: the closures of id, keyed, listed; what a step's function takes, in one word; no statement of the seat is proved here. -/
import Derived.Test.YtjnedbkbhoiopaaDoorPtF
namespace Go.Proofs.YtjnedbkbhoiopaaDoor
open Go.RowKit

theorem str_beq (t u : ByteArray) : (t.toList == u.toList) = decide (t.data.toList = u.data.toList) := by
  rw [ByteArray.toList_eq, ByteArray.toList_eq, Bool.eq_iff_iff, beq_iff_eq, decide_eq_true_iff]
theorem u8_beq (k : UInt8) (n : Nat) (hn : n < 256) : ((k.toNat : Int) == (n : Int)) = decide (k = UInt8.ofNat n) := by
  rw [Bool.eq_iff_iff, beq_iff_eq, decide_eq_true_iff]
  constructor
  · intro h; rw [← UInt8.toNat_inj, UInt8.toNat_ofNat']; omega
  · rintro rfl; rw [UInt8.toNat_ofNat']; omega

theorem keyed1_is (k : UInt8) (t d : ByteArray) (a : Int) (w : World) :
    Calls Tryd.prog 44 #[stepV k t d a] w fun e w' => e = .returned (.bool true) ∧ Below w.heap.size w w' := by
  unfold stepV
  go_enter Tryd.func44, Tryd.ntmps44
  go_wp2
  go_ret
  exact ⟨rfl, below_new1 _ _⟩
theorem listed1_is (k : UInt8) (t d : ByteArray) (a : Int) (w : World) (x : Bool) (hx : (decide (k = 1) || decide (k = 2)) = x) :
    Calls Tryd.prog 48 #[stepV k t d a] w fun e w' => e = .returned (.bool x) ∧ Below w.heap.size w w' := by
  unfold stepV
  have b1 : ((k.toNat : Int) == 1) = decide (k = 1) := u8_beq k 1 (by omega)
  have b2 : ((k.toNat : Int) == 2) = decide (k = 2) := u8_beq k 2 (by omega)
  obtain ⟨y, hy⟩ : ∃ y, decide (k = 1) = y := ⟨_, rfl⟩
  obtain ⟨z, hz⟩ : ∃ z, decide (k = 2) = z := ⟨_, rfl⟩
  rw [hy] at hx b1
  rw [hz] at hx b2
  clear hy hz
  subst hx
  cases y
  · go_enter Tryd.func48, Tryd.ntmps48
    go_wp2
    go_ret
    exact ⟨rfl, below_new1 _ _⟩
  · go_enter Tryd.func48, Tryd.ntmps48
    go_wp2
    go_ret
    exact ⟨rfl, below_new1 _ _⟩

/-- The closure of id over whatever. -/
theorem takesI_any (k : UInt8) (t d u : ByteArray) (a : Int) (B C : Nat) (w : World) (hf : FV w B (.func (.func 46) #[] #[])) (hu : w.cell? ⟨C, 0, none⟩ = some (.string u)) (x : Bool) (hx : (decide (k = 2) && (t.toList == u.toList)) = x) :
    Calls Tryd.prog 59 #[stepV k t d a, .pointer (some ⟨C, 0, none⟩), .pointer (some ⟨B, 0, none⟩)] w fun e w' => e = .returned (.bool x) ∧ Below w.heap.size w w' := by
  have c0 : w.cell? ⟨B, 0, none⟩ = some (.func (.func 46) #[] #[]) := blk_cell hf 0
  have hB : B < w.heap.size := blk_lt hf
  have hC : C < w.heap.size := World.block_lt_of_cell? w _ hu
  clear hf
  have b0 : ((k.toNat : Int) == 2) = decide (k = 2) := u8_beq k 2 (by omega)
  obtain ⟨y, hy⟩ : ∃ y, decide (k = 2) = y := ⟨_, rfl⟩
  obtain ⟨z, hz⟩ : ∃ z, (t.toList == u.toList) = z := ⟨_, rfl⟩
  rw [hy] at hx b0
  rw [hz] at hx
  clear hy
  subst hx
  unfold stepV
  cases y
  · go_enter Tryd.func59, Tryd.ntmps59
    go_wp2
    go_ret
    exact ⟨rfl, below_new1 _ _⟩
  · cases z
    all_goals (
      go_enter Tryd.func59, Tryd.ntmps59
      go_wp2_with (go_at_call 46; (with_reducible refine (whatever_is _ _).mono ?_); rintro e w' ⟨rfl, rfl⟩)
      go_ret
      exact ⟨rfl, below_new1 _ _⟩)

/-- The closure of id over one text. -/
theorem takesI_same (k : UInt8) (t d u v : ByteArray) (a : Int) (B C D : Nat) (w : World) (hf : FV w B (.func (.func 58) #[] #[.pointer (some ⟨D, 0, none⟩)])) (hu : w.cell? ⟨C, 0, none⟩ = some (.string u)) (hv : w.cell? ⟨D, 0, none⟩ = some (.string v))
    (x : Bool) (hx : (decide (k = 2) && (t.toList == u.toList) && (d.toList == v.toList)) = x) :
    Calls Tryd.prog 59 #[stepV k t d a, .pointer (some ⟨C, 0, none⟩), .pointer (some ⟨B, 0, none⟩)] w fun e w' => e = .returned (.bool x) ∧ Below w.heap.size w w' := by
  have c0 : w.cell? ⟨B, 0, none⟩ = some (.func (.func 58) #[] #[.pointer (some ⟨D, 0, none⟩)]) := blk_cell hf 0
  have hB : B < w.heap.size := blk_lt hf
  have hC : C < w.heap.size := World.block_lt_of_cell? w _ hu
  clear hf
  have b0 : ((k.toNat : Int) == 2) = decide (k = 2) := u8_beq k 2 (by omega)
  obtain ⟨y, hy⟩ : ∃ y, decide (k = 2) = y := ⟨_, rfl⟩
  obtain ⟨z, hz⟩ : ∃ z, (t.toList == u.toList) = z := ⟨_, rfl⟩
  obtain ⟨r, hr⟩ : ∃ r, (d.toList == v.toList) = r := ⟨_, rfl⟩
  rw [hy] at hx b0
  rw [hz, hr] at hx
  have hv1 := fun o : Obj => cell_later (below_new1 w o) hv
  have SP := Lib.hid (fun o => same1_is d v D r hr (w.alloc o) (hv1 o))
  clear hy hr hv hv1
  subst hx
  unfold stepV
  cases y
  · go_enter Tryd.func59, Tryd.ntmps59
    go_wp2
    go_ret
    exact ⟨rfl, below_new1 _ _⟩
  · cases z
    · go_enter Tryd.func59, Tryd.ntmps59
      go_wp2
      go_ret
      exact ⟨rfl, below_new1 _ _⟩
    · go_enter Tryd.func59, Tryd.ntmps59
      go_wp2_with (go_at_call 58; (with_reducible refine (SP.out _).mono ?_); rintro e w' ⟨rfl, rfl⟩)
      go_ret
      exact ⟨rfl, below_new1 _ _⟩

/-- A path's step as it is meant. -/
def pstep (k : UInt8) (t d : ByteArray) : PStep := ⟨(k.toNat : Int), t.data.toList, d.data.toList⟩
/-- Blocks of one function value, or of one text, stay. -/
def Keeps (w w' : World) : Prop := ∀ (k : Nat) (v : Value) (T : TypeId), (T = 95 ∨ T = 9) → w.heap[k]? = some (.cells #[v] T (0, 0)) → w'.heap[k]? = some (.cells #[v] T (0, 0))
theorem Keeps.refl (w : World) : Keeps w w := fun _ _ _ _ h => h
theorem Keeps.trans {w w' w'' : World} (h : Keeps w w') (h' : Keeps w' w'') : Keeps w w'' := fun k v T hT e => h' k v T hT (h k v T hT e)
theorem Keeps.of_below {w w' : World} {B : Nat} (h : Below B w w') (hB : w.heap.size ≤ B) : Keeps w w' := fun _k _ _ _ e => blk_later e h (Nat.lt_of_lt_of_le (blk_lt e) hB)
theorem Keeps.set {w : World} {n i : Nat} {cs : Array Value} {T : TypeId} {fz : Nat × Nat} (h : w.heap[n]? = some (.cells cs T fz)) (hF : T ≠ 95) (hS : T ≠ 9) (v : Value) : Keeps w (w.setCell ⟨n, i, none⟩ v) := by
  intro k u U hU e
  by_cases hk : k = n
  · subst hk
    rw [h] at e
    injection e with e; injection e with _ e _
    subst e
    rcases hU with rfl | rfl
    · exact absurd rfl hF
    · exact absurd rfl hS
  · rw [Below.heap_setCell w ⟨n, i, none⟩ v k hk]; exact e
theorem Keeps.grown {w w' : World} {row : Option Nat} (h : w.grownBy w' row) (hr : ∀ g, row = some g → ∃ cs T fz, w.heap[g]? = some (.cells cs T fz) ∧ T ≠ 95 ∧ T ≠ 9) : Keeps w w' := by
  intro k u U hU e
  rw [h.block k (blk_lt e) (fun q => ?_)]
  · exact e
  · obtain ⟨cs, T, fz, e', h1, h2⟩ := hr k q.symm
    rw [e] at e'
    injection e' with e'; injection e' with _ e' _
    subst e'
    rcases hU with rfl | rfl
    · exact h1 rfl
    · exact h2 rfl
/-- A function that takes what a pattern's step takes, from a world on. -/
def TK (w : World) (f : Value) (p : Pat) : Prop := ∃ (F : FuncId) (cap : Array Value), f = .func (.func F) #[] cap ∧ (∀ args w', (callFunc F args).run Tryd.prog w' = .ok (.enter F args) w') ∧
  ∀ w', Keeps w w' → ∀ (k : UInt8) (t d : ByteArray) (a : Int), Calls Tryd.prog F (#[stepV k t d a] ++ cap) w' fun e w'' => e = .returned (.bool (p.takes (pstep k t d))) ∧ Below w'.heap.size w' w''
theorem TK.keep {w w' : World} {f : Value} {p : Pat} (h : TK w f p) (hb : Keeps w w') : TK w' f p := by
  obtain ⟨F, cap, e, h1, h2⟩ := h
  exact ⟨F, cap, e, h1, fun w2 hb2 => h2 w2 (hb.trans hb2)⟩
theorem TK.later {w w' : World} {f : Value} {p : Pat} (h : TK w f p) (hb : Below w.heap.size w w') : TK w' f p := h.keep (Keeps.of_below hb (Nat.le_refl _))

theorem takes0 (k : UInt8) (t d : ByteArray) (n : Nat) (z : Int) (x : UInt8) (hn : n < 256) (hz : z = n) (hx : x = UInt8.ofNat n) : decide ((pstep k t d).kind = z) = decide (k = x) := by
  subst hz hx; rw [← u8_beq k n hn]; rfl
/-- A text's cell. -/
def SC (w : World) (n : Nat) (s : ByteArray) : Prop := w.heap[n]? = some (.cells #[.string s] 9 (0, 0))
theorem tk_stars (w : World) : TK w (.func (.func 44) #[] #[]) .stars :=
  ⟨_, _, rfl, fun _ _ => by kernel_rfl, fun w' _ k t d a => keyed1_is k t d a w'⟩
theorem tk_anyAt (w : World) : TK w (.func (.func 48) #[] #[]) .anyAt :=
  ⟨_, _, rfl, fun _ _ => by kernel_rfl, fun w' _ k t d a => listed1_is k t d a w' _ (by
    show _ = (decide ((pstep k t d).kind = 1) || decide ((pstep k t d).kind = 2))
    rw [takes0 k t d 1 1 1 (by omega) rfl rfl, takes0 k t d 2 2 2 (by omega) rfl rfl])⟩
theorem tk_anyKey (w : World) (B : Nat) (h : FV w B (.func (.func 46) #[] #[])) : TK w (.func (.func 57) #[] #[.pointer (some ⟨B, 0, none⟩)]) .anyKey :=
  ⟨_, _, rfl, fun _ _ => by kernel_rfl, fun w' hb k t d a => takes_any k t d a B w' (hb _ _ _ (.inl rfl) h) _ (by
    show _ = decide ((pstep k t d).kind = 0)
    rw [takes0 k t d 0 0 0 (by omega) rfl rfl])⟩
theorem tk_key (w : World) (B C : Nat) (u : ByteArray) (h : FV w B (.func (.func 58) #[] #[.pointer (some ⟨C, 0, none⟩)])) (hc : SC w C u) : TK w (.func (.func 57) #[] #[.pointer (some ⟨B, 0, none⟩)]) (.key u.data.toList) :=
  ⟨_, _, rfl, fun _ _ => by kernel_rfl, fun w' hb k t d a => takes_same k t d u a B C w' (hb _ _ _ (.inl rfl) h) (blk_cell (hb _ _ _ (.inr rfl) hc) 0) _ (by
    show _ = (decide ((pstep k t d).kind = 0) && decide ((pstep k t d).txt = u.data.toList))
    rw [takes0 k t d 0 0 0 (by omega) rfl rfl, str_beq]; rfl)⟩
theorem tk_anyId (w : World) (B C : Nat) (u : ByteArray) (h : FV w B (.func (.func 46) #[] #[])) (hc : SC w C u) : TK w (.func (.func 59) #[] #[.pointer (some ⟨C, 0, none⟩), .pointer (some ⟨B, 0, none⟩)]) (.anyId u.data.toList) :=
  ⟨_, _, rfl, fun _ _ => by kernel_rfl, fun w' hb k t d a => takesI_any k t d u a B C w' (hb _ _ _ (.inl rfl) h) (blk_cell (hb _ _ _ (.inr rfl) hc) 0) _ (by
    show _ = (decide ((pstep k t d).kind = 2) && decide ((pstep k t d).txt = u.data.toList))
    rw [takes0 k t d 2 2 2 (by omega) rfl rfl, str_beq]; rfl)⟩
theorem tk_id (w : World) (B C D : Nat) (u v : ByteArray) (h : FV w B (.func (.func 58) #[] #[.pointer (some ⟨D, 0, none⟩)])) (hc : SC w C u) (hd : SC w D v) : TK w (.func (.func 59) #[] #[.pointer (some ⟨C, 0, none⟩), .pointer (some ⟨B, 0, none⟩)]) (.id u.data.toList v.data.toList) :=
  ⟨_, _, rfl, fun _ _ => by kernel_rfl, fun w' hb k t d a => takesI_same k t d u v a B C D w' (hb _ _ _ (.inl rfl) h) (blk_cell (hb _ _ _ (.inr rfl) hc) 0) (blk_cell (hb _ _ _ (.inr rfl) hd) 0) _ (by
    show _ = (decide ((pstep k t d).kind = 2) && decide ((pstep k t d).txt = u.data.toList) && decide ((pstep k t d).ids = v.data.toList))
    rw [takes0 k t d 2 2 2 (by omega) rfl rfl, str_beq, str_beq]; rfl)⟩

end Go.Proofs.YtjnedbkbhoiopaaDoor
