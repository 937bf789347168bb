/- Runes put as bytes: utf8s.Put and the reference's Put; no statement of the seat is proved here. -/
import Derived.Test.YtflfedfghnnaeaaDoorApp
import Derived.Test.YtflfedfghnnaeaaDoorShelf
import Derived.Lib.RuneBytes
namespace Go.Proofs.YtflfedfghnnaeaaDoor
open Go.RowKit

/-- The integers at the address A. -/
def IS (w : World) (B : Nat) (A : Option Addr) (zs : List Int) : Prop :=
  ∀ k (h : k < zs.length), ∃ a, A = some a ∧ a.block < B ∧ w.cell? (a.add k) = some (.int .i64 zs[k])
theorem IS.below {w w' : World} {B : Nat} {A : Option Addr} {l : List Int} (h : IS w B A l) (hb : Below B w w') : IS w' B A l := by
  intro k hk
  obtain ⟨a, e, ha, hc⟩ := h k hk
  exact ⟨a, e, ha, (hb.cell (by rw [add_block]; exact ha)).trans hc⟩
theorem IS.mono {w : World} {B B' : Nat} {A : Option Addr} {l : List Int} (h : IS w B A l) (hb : B ≤ B') : IS w B' A l := by
  intro k hk
  obtain ⟨a, e, ha, hc⟩ := h k hk
  exact ⟨a, e, Nat.lt_of_lt_of_le ha hb, hc⟩
theorem IS.later {w w' : World} {A : Option Addr} {l : List Int} (h : IS w w.heap.size A l) (hb : Below w.heap.size w w') : IS w' w'.heap.size A l := (h.below hb).mono hb.size
theorem IS.made (w : World) (l : List Int) (e : TypeId) (fz : Nat × Nat) : IS (w.alloc (.cells (l.map fun b => Value.int .i64 b).toArray e fz)) (w.heap.size + 1) (some ⟨w.heap.size, 0, none⟩) l := by
  intro k hk
  refine ⟨_, rfl, by simp, ?_⟩
  have hg : (w.alloc (.cells (l.map fun b => Value.int .i64 b).toArray e fz)).heap[w.heap.size]? = some (.cells (l.map fun b => Value.int .i64 b).toArray e fz) := heap_alloc_new w _
  rw [add_plain, Nat.zero_add, World.cell?, hg]
  simp [hk]

def putL (rs : List Int) : List UInt8 := rs.flatMap Lib.encodeRune
theorem putL_snoc (rs : List Int) (r : Int) : putL (rs ++ [r]) = putL rs ++ Lib.encodeRune r := by simp [putL]
theorem putL_len (rs : List Int) : (putL rs).length ≤ 4 * rs.length := by
  induction rs with
  | nil => simp [putL]
  | cons r rs ih =>
    have := Lib.runeCells_le r
    rw [Lib.runeCells_length] at this
    simp [putL] at ih ⊢; omega
theorem rune_cells (r : Int) : Lib.runeCells r = byteVals (Lib.encodeRune r) := (Lib.byteCells_encodeRune r).symm
theorem take_next (rs : List Int) (k : Nat) (h : k < rs.length) : rs.take (k + 1) = rs.take k ++ [rs[k]] := by
  rw [List.take_succ_eq_append_getElem h]
theorem enc_bad (r : Int) (h : r < 0 ∨ 1114111 < r) : Lib.encodeRune r = Lib.encodeRune 65533 := by
  unfold Lib.encodeRune
  rw [Lib.encodeRuneZ_bad (by omega), Lib.encodeRuneZ_three (by omega)]
  rfl
theorem put_byte : (Tryd.prog.info? 5).map (fun i => (i.zero, i.size, i.bytes)) = some (some (.int .u8 0), 1, 1) := by kernel_rfl

/-- A row of bytes of the call's own (or nil). -/
def OwnB (w : World) (base : Nat) (A : Option Addr) (n c : Nat) (l : List UInt8) : Prop := w.ownsRow base 5 1 (.slice A n c) n (byteVals l)
theorem OwnB.len {w : World} {base : Nat} {A : Option Addr} {n c : Nat} {l : List UInt8} (h : OwnB w base A n c l) : n = l.length := (own_bs h).1
theorem OwnB.bs {w : World} {base : Nat} {A : Option Addr} {n c : Nat} {l : List UInt8} (h : OwnB w base A n c l) : BS w w.heap.size A l := (own_bs h).2
theorem OwnB.cap {w : World} {base : Nat} {A : Option Addr} {n c : Nat} {l : List UInt8} (h : OwnB w base A n c l) : n ≤ c := by
  obtain ⟨A', c', e, hc⟩ := own_slice h
  injection e with _ _ e3
  omega
theorem OwnB.keep {w w' : World} {base : Nat} {A : Option Addr} {n c : Nat} {l : List UInt8} (h : OwnB w base A n c l) {B : Nat} (hb : Below B w w') (hB : w.heap.size ≤ B) : OwnB w' base A n c l := own_keep h hb hB
theorem OwnB.nil (w : World) (base : Nat) : OwnB w base none 0 0 [] := World.ownsRow_nil _ _ _ _
theorem OwnB.ge {w : World} {base : Nat} {A : Option Addr} {n c : Nat} {l : List UInt8} (h : OwnB w base A n c l) : ∀ q, (Value.slice A n c).ownBlock = some q → base ≤ q := fun q hq => (World.ownsRow.lt h q hq).1

/-- The row without the room behind it. -/
theorem OwnB.owns {w : World} {base : Nat} {A : Option Addr} {n c : Nat} {l : List UInt8} (h : OwnB w base A n c l) : OwnS w base 5 1 A n (byteVals l) := OwnS.of_own h
theorem OwnS.bs {w : World} {base : Nat} {e : TypeId} {A : Option Addr} {n : Nat} {l : List UInt8} (h : OwnS w base e 1 A n (byteVals l)) : n = l.length ∧ BS w w.heap.size A l := by
  have hn : n = l.length := by have := h.len; rw [byteVals_len] at this; omega
  refine ⟨hn, fun k hk => ?_⟩
  obtain ⟨g, hA, _, hg, hc⟩ := h.cell (j := k) (by omega)
  exact ⟨_, hA, hg, by rw [add_plain, Nat.zero_add, hc]; simp [byteVals]⟩

theorem clipB_any (A : Option Addr) (n c : Nat) (hc : n ≤ c) (w : World) :
    Calls Tryd.prog 87 #[.slice A n c] w fun e w' => e = .returned (.slice A n n) ∧ w = w' := by
  go_enter Tryd.func87, Tryd.ntmps87
  go_wp2
  go_ret
  exact ⟨rfl, rfl⟩

theorem apr_any (B : Nat) (A : Option Addr) (n c : Nat) (l : List UInt8) (r : Int) (hr0 : -2147483648 ≤ r) (hr1 : r ≤ 2147483647) (w : World) (hown : OwnB w B A n c l) (hlen : n + 4 ≤ 140737488355328) (hBw : B ≤ w.heap.size) :
    Calls Tryd.prog 86 #[.slice A n c, .int .i32 r] w fun e w' => ∃ A' n' c', e = .returned (.slice A' n' c') ∧ n' = n + (Lib.encodeRune r).length ∧ OwnB w' B A' n' c' (l ++ Lib.encodeRune r) ∧ Below B w w' := by
  refine (Tryd.utf8_AppendRune_plain B _ n _ r hr0 hr1 w hown hlen hBw).mono ?_
  rintro e w' ⟨v', rfl, hown', o, hg⟩
  rw [rune_cells, ← byteVals_app, byteVals_len] at hown'
  obtain ⟨A', c', rfl, hc'⟩ := own_slice hown'
  exact ⟨A', _, c', rfl, rfl, hown', ((Below.refl B w).alloc hBw o).grown hg (by simp; omega) hown.ge⟩

set_option maxRecDepth 100000 in
set_option maxHeartbeats 1000000 in
theorem put_any (A : Option Addr) (rs : List Int) (n c : Nat) (hn : n = rs.length) (hl : n ≤ 1073741824) (w : World) (hI : IS w w.heap.size A rs) :
    Calls Tryd.prog 83 #[.slice A n c] w fun e w' => ∃ A' m, e = .returned (.slice A' m m) ∧ OwnS w' w.heap.size 5 1 A' m (byteVals (putL rs)) ∧ Below w.heap.size w w' := by
  subst hn
  have HI := Lib.hid hI; clear hI
  go_enter Tryd.func83, Tryd.ntmps83
  go_wp2
  go_loopg [3, 5, 8] rs.length (fun g s3 s5 s8 wr => ∃ k n' c' : Nat, ∃ A', s8 = .int .i64 k ∧ s3 = .slice A' n' c' ∧ k ≤ rs.length ∧ n' ≤ 4 * k ∧ Hid (g = rs.length - k) ∧ Hid (OwnB wr w.heap.size A' n' c' (putL (rs.take k))) ∧ Below w.heap.size w wr)
  case atStart => exact ⟨0, 0, 0, none, rfl, rfl, by omega, by omega, rfl, OwnB.nil _ _, Below.refl _ _⟩
  case round =>
    obtain ⟨k, n', c', A', rfl, rfl, hk, hn', hg, hown, hbw⟩ := hrel
    by_cases hlt : k < rs.length
    · obtain ⟨a, rfl, hab, hca⟩ := (HI.out.below hbw) k hlt
      have ht := Lib.hid (take_next rs k hlt)
      obtain ⟨r, hr⟩ : ∃ r, Hid (rs[k] = r) := ⟨rs[k], rfl⟩
      rw [hr.out] at hca
      have fin : ∀ (r' : Int), Lib.encodeRune r = Lib.encodeRune r' → ∀ w2 A2 c2 n2, OwnB w2 w.heap.size A2 n2 c2 (putL (rs.take k) ++ Lib.encodeRune r') → OwnB w2 w.heap.size A2 n2 c2 (putL (rs.take (k + 1))) := fun r' e w2 A2 c2 n2 h => by
        rw [ht.out, putL_snoc, hr.out, e]; exact h
      have HF := Lib.hid fin; clear fin
      have hl4 : ∀ r, (Lib.encodeRune r).length ≤ 4 := fun r => by have := Lib.runeCells_le r; rw [Lib.runeCells_length] at this; omega
      have HL4 := Lib.hid hl4; clear hl4
      by_cases hbad : r < 0 ∨ 1114111 < r
      · have hen := Lib.hid (enc_bad r hbad)
        rcases hbad with hb0 | hb0
        all_goals
          go_wp2_with fail
          refine (apr_any _ _ _ _ _ 65533 (by omega) (by omega) _ hown.out (by omega) hbw.size).mono ?_
          rintro e w2 ⟨A2, n2, c2, rfl, hn2, hown2, hb2⟩
          have h4 := HL4.out 65533
          have hn2' : n2 ≤ 4 * (k + 1) := by omega
          clear hn2 h4
          have HO := Lib.hid hown2
          clear hown2
          go_wp2
          go_roundg (rs.length - (k + 1))
          case measure => have := hg.out; omega
          case rel => exact ⟨k + 1, n2, c2, A2, by go_num, rfl, by omega, hn2', rfl, HF.out _ hen.out _ _ _ _ HO.out, hbw.trans hb2⟩
      · have hb1 : 0 ≤ r := by omega
        have hb2' : r ≤ 1114111 := by omega
        clear hbad
        go_wp2_with fail
        refine (apr_any _ _ _ _ _ r (by omega) (by omega) _ hown.out (by omega) hbw.size).mono ?_
        rintro e w2 ⟨A2, n2, c2, rfl, hn2, hown2, hb2⟩
        have h4 := HL4.out r
        have hn2' : n2 ≤ 4 * (k + 1) := by omega
        clear hn2 h4
        have HO := Lib.hid hown2
        clear hown2
        go_wp2
        go_roundg (rs.length - (k + 1))
        case measure => have := hg.out; omega
        case rel => exact ⟨k + 1, n2, c2, A2, by go_num, rfl, by omega, hn2', rfl, HF.out _ rfl _ _ _ _ HO.out, hbw.trans hb2⟩
    · obtain rfl : k = rs.length := by omega
      have hcap := hown.out.cap
      go_wp2_with (go_at_call 87; refine (clipB_any _ _ _ hcap _).mono ?_; rintro e w2 ⟨rfl, rfl⟩)
      go_ret
      have h := hown.out
      rw [List.take_length] at h
      exact ⟨_, _, rfl, h.owns, hbw⟩

end Go.Proofs.YtflfedfghnnaeaaDoor
