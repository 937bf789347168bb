/- Walks over package patterns: what key's steps take; no statement of the seat is proved here. -/
import Derived.Test.YtjnedbkbhoiopaaDoorPtE
namespace Go.Proofs.YtjnedbkbhoiopaaDoor
open Go.RowKit

/-- A path's step as a value. -/
def stepV (k : UInt8) (t d : ByteArray) (a : Int) : Value := .agg #[.int .u8 (k.toNat : Int), .string t, .string d, .int .i64 a]
/-- The closure of key over whatever. -/
theorem takes_any (k : UInt8) (t d : ByteArray) (a : Int) (B : Nat) (w : World) (hf : FV w B (.func (.func 46) #[] #[])) (x : Bool) (hx : decide (k = 0) = x) :
    Calls Tryd.prog 57 #[stepV k t d a, .pointer (some ⟨B, 0, none⟩)] w fun e w' => e = .returned (.bool x) ∧ Below w.heap.size w w' := by
  have c0 : w.cell? ⟨B, 0, none⟩ = some (.func (.func 46) #[] #[]) := blk_cell hf 0
  have hB : B < w.heap.size := blk_lt hf
  clear hf
  cases x
  · have b0 : ((k.toNat : Int) == 0) = false := by
      simp only [decide_eq_false_iff_not] at hx
      simp only [beq_eq_false_iff_ne, ne_eq]
      intro e; exact hx (UInt8.toNat_inj.1 (by simpa using (by omega : k.toNat = 0)))
    clear hx
    unfold stepV
    go_enter Tryd.func57, Tryd.ntmps57
    go_wp2
    go_ret
    exact ⟨rfl, below_new1 _ _⟩
  · have b0 : ((k.toNat : Int) == 0) = true := by
      have := of_decide_eq_true hx; subst this; rfl
    clear hx
    unfold stepV
    go_enter Tryd.func57, Tryd.ntmps57
    go_wp2_with (go_at_call 46; (with_reducible refine (whatever_is _ _).mono ?_); rintro e w' ⟨rfl, rfl⟩)
    go_ret
    exact ⟨rfl, below_new1 _ _⟩

/-- The closure of key over one text. -/
theorem takes_same (k : UInt8) (t d u : ByteArray) (a : Int) (B C : Nat) (w : World) (hf : FV w B (.func (.func 58) #[] #[.pointer (some ⟨C, 0, none⟩)])) (hu : w.cell? ⟨C, 0, none⟩ = some (.string u)) (x : Bool) (hx : (decide (k = 0) && (t.toList == u.toList)) = x) :
    Calls Tryd.prog 57 #[stepV k t d a, .pointer (some ⟨B, 0, none⟩)] w fun e w' => e = .returned (.bool x) ∧ Below w.heap.size w w' := by
  have c0 : w.cell? ⟨B, 0, none⟩ = some (.func (.func 58) #[] #[.pointer (some ⟨C, 0, none⟩)]) := blk_cell hf 0
  have hB : B < w.heap.size := blk_lt hf
  clear hf
  have hu1 := fun o : Obj => cell_later (below_new1 w o) hu
  obtain ⟨y, hy⟩ : ∃ y, (t.toList == u.toList) = y := ⟨_, rfl⟩
  rw [hy] at hx
  have SP := Lib.hid (fun o => same1_is t u C y hy (w.alloc o) (hu1 o))
  clear hy hu hu1
  by_cases hk : k = 0
  · have b0 : ((k.toNat : Int) == 0) = true := by subst hk; rfl
    have e : y = x := by rw [← hx]; simp [hk]
    subst e
    clear hx hk
    unfold stepV
    go_enter Tryd.func57, Tryd.ntmps57
    go_wp2_with (go_at_call 58; (with_reducible refine (SP.out _).mono ?_); rintro e w' ⟨rfl, rfl⟩)
    go_ret
    exact ⟨rfl, below_new1 _ _⟩
  · have b0 : ((k.toNat : Int) == 0) = false := by
      simp only [beq_eq_false_iff_ne, ne_eq]
      intro e; exact hk (UInt8.toNat_inj.1 (by simpa using (by omega : k.toNat = 0)))
    have e : x = false := by rw [← hx]; simp [hk]
    subst e
    clear hx hk
    unfold stepV
    go_enter Tryd.func57, Tryd.ntmps57
    go_wp2
    go_ret
    exact ⟨rfl, below_new1 _ _⟩

end Go.Proofs.YtjnedbkbhoiopaaDoor
