/- The reference's steps in memory, and its takes; no statement of the seat is proved here. (Printed by wip/tools/genPtRD.py.) -/
import Derived.Test.YtjnedbkbhoiopaaDoorPtRC
import Derived.Test.YtjnedbkbhoiopaaDoorPtEq
namespace Go.Proofs.YtjnedbkbhoiopaaDoor
open Go.RowKit

def kindR : Pat → Int
  | .key _ => 0
  | .anyKey => 1
  | .stars => 2
  | .anyAt => 3
  | .id _ _ => 4
  | .anyId _ => 5
def txtR : Pat → List UInt8
  | .key w => w
  | .id f _ => f
  | .anyId f => f
  | _ => []
def idsR : Pat → List UInt8
  | .id _ w => w
  | _ => []
abbrev baR (l : List UInt8) : ByteArray := ⟨l.toArray⟩
def cellsR (p : Pat) : List Value := [.int .i64 (kindR p), .string (baR (txtR p)), .string (baR (idsR p))]
def rowR (ps : List Pat) : List Value := ps.flatMap cellsR
theorem rowR_len (ps : List Pat) : (rowR ps).length = ps.length * 3 := by
  induction ps with
  | nil => rfl
  | cons x q ih => show (cellsR x ++ rowR q).length = _; rw [List.length_append, ih, List.length_cons]; simp [cellsR]; omega
theorem rowR_snoc (q : List Pat) (x : Pat) : rowR (q ++ [x]) = rowR q ++ cellsR x := by simp [rowR]
theorem rowR_get {q : List Pat} {k : Nat} (h : k < q.length) (r : Nat) (hr : r < 3) : (rowR q)[k * 3 + r]? = (cellsR q[k])[r]? := by
  induction q generalizing k with
  | nil => simp at h
  | cons x q ih =>
    have e : rowR (x :: q) = cellsR x ++ rowR q := rfl
    have e3 : (cellsR x).length = 3 := rfl
    rw [e]
    cases k with
    | zero => rw [List.getElem?_append_left (by omega)]; simp
    | succ k =>
      rw [List.getElem?_append_right (by omega), e3, show (k + 1) * 3 + r - 3 = k * 3 + r by omega]
      exact ih (by simpa using h)
theorem cellsR_one {p : Pat} : ∀ u ∈ cellsR p, u.oneCell' = true := by
  intro u hu
  simp [cellsR] at hu
  rcases hu with rfl | rfl | rfl <;> rfl
theorem step3_info : (Tryd.prog.info? 90).map (fun i => (i.zero, i.size, i.bytes)) = some (some (.agg #[.int .i64 0, .string ⟨#[]⟩, .string ⟨#[]⟩]), 3, 40) := by kernel_rfl
/-- The reference's steps in memory. -/
def RM (w : World) (A : Option Addr) (ps : List Pat) : Prop := ∀ k (h : k < ps.length), ∃ g, A = some ⟨g, 0, none⟩ ∧ g < w.heap.size ∧ ∀ r, r < 3 → w.cell? ⟨g, k * 3 + r, none⟩ = (cellsR ps[k])[r]?
theorem RM.keep {w w' : World} {A : Option Addr} {ps : List Pat} (h : RM w A ps) (hb : Below w.heap.size w w') : RM w' A ps := fun k hk => by
  obtain ⟨g, e, hg, hc⟩ := h k hk
  exact ⟨g, e, Nat.lt_of_lt_of_le hg hb.size, fun r hr => (hb.cell hg).trans (hc r hr)⟩
theorem RM.of_own {w : World} {base n c : Nat} {A : Option Addr} {ps : List Pat} (h : w.ownsRow base 90 3 (.slice A n c) n (rowR ps)) (hn : n = ps.length) : RM w A ps := by
  intro k hk
  obtain ⟨g, cur, hA, _, hh, h4⟩ := (OwnS.of_own h).at_ (by omega)
  refine ⟨g, hA, blk_lt hh, fun r hr => ?_⟩
  rw [blk_cell hh, ← rowR_get hk r hr, ← h4, List.getElem?_take, if_pos (by omega)]
  simp
abbrev boxS (o : PS4) : Array Value := #[.int .u8 (o.k.toNat : Int), .string o.t, .string o.d, .int .i64 o.a]
theorem kb_at (x : PS4) (n : Int) : decide (x.step.kind = n) = ((x.k.toNat : Int) == n) := by
  rw [Bool.eq_iff_iff, beq_iff_eq, decide_eq_true_iff]; rfl
theorem tb_at (x : PS4) (l : List UInt8) : decide (x.step.txt = l) = (x.t.toList == (baR l).toList) := by
  rw [str_beq]; rfl
theorem db_at (x : PS4) (l : List UInt8) : decide (x.step.ids = l) = (x.d.toList == (baR l).toList) := by
  rw [str_beq]; rfl
set_option maxHeartbeats 4000000 in
theorem rtakes_is (p : Pat) (x : PS4) (b : Bool) (hb : p.takes x.step = b) (w : World) : Calls Tryd.prog 41 #[.agg #[.int .i64 (kindR p), .string (baR (txtR p)), .string (baR (idsR p))], .agg (boxS x)] w fun e w' => e = .returned (.bool b) ∧ Below w.heap.size w w' := by
  subst hb
  have b2 := below_new2 w (.cells #[.int .i64 (kindR p), .string (baR (txtR p)), .string (baR (idsR p))] 90) (.cells (boxS x) 50)
  cases p with
  | key f =>
    rw [show (Pat.key f).takes x.step = (decide (x.step.kind = 0) && decide (x.step.txt = f)) from rfl, kb_at, tb_at]
    obtain ⟨K, hK⟩ : ∃ K, ((x.k.toNat : Int) == 0) = K := ⟨_, rfl⟩
    obtain ⟨E, hE⟩ : ∃ E, (x.t.toList == (baR f).toList) = E := ⟨_, rfl⟩
    rw [hK, hE]
    unfold kindR txtR idsR at b2 ⊢
    dsimp only at b2 ⊢
    obtain ⟨F, hF⟩ : ∃ F, baR f = F := ⟨_, rfl⟩
    rw [hF] at b2 hE ⊢
    clear hF
    cases K
    all_goals (
      go_enter Tryd.func41, Tryd.ntmps41
      go_wp2
      go_ret
      exact ⟨rfl, b2⟩)
  | anyKey =>
    rw [show Pat.anyKey.takes x.step = decide (x.step.kind = 0) from rfl, kb_at]
    obtain ⟨K, hK⟩ : ∃ K, ((x.k.toNat : Int) == 0) = K := ⟨_, rfl⟩
    rw [hK]
    go_enter Tryd.func41, Tryd.ntmps41
    go_wp2
    go_ret
    exact ⟨rfl, b2⟩
  | stars =>
    rw [show Pat.stars.takes x.step = true from rfl]
    go_enter Tryd.func41, Tryd.ntmps41
    go_wp2
    go_ret
    exact ⟨rfl, b2⟩
  | anyAt =>
    rw [show Pat.anyAt.takes x.step = (decide (x.step.kind = 1) || decide (x.step.kind = 2)) from rfl, kb_at, kb_at]
    obtain ⟨K, hK⟩ : ∃ K, ((x.k.toNat : Int) == 1) = K := ⟨_, rfl⟩
    obtain ⟨E, hE⟩ : ∃ K, ((x.k.toNat : Int) == 2) = K := ⟨_, rfl⟩
    rw [hK, hE]
    cases K
    all_goals (
      go_enter Tryd.func41, Tryd.ntmps41
      go_wp2
      go_ret
      exact ⟨rfl, b2⟩)
  | id f v =>
    rw [show (Pat.id f v).takes x.step = (decide (x.step.kind = 2) && decide (x.step.txt = f) && decide (x.step.ids = v)) from rfl, kb_at, tb_at, db_at]
    obtain ⟨K, hK⟩ : ∃ K, ((x.k.toNat : Int) == 2) = K := ⟨_, rfl⟩
    obtain ⟨E, hE⟩ : ∃ E, (x.t.toList == (baR f).toList) = E := ⟨_, rfl⟩
    obtain ⟨G, hG⟩ : ∃ E, (x.d.toList == (baR v).toList) = E := ⟨_, rfl⟩
    rw [hK, hE, hG]
    unfold kindR txtR idsR at b2 ⊢
    dsimp only at b2 ⊢
    obtain ⟨F, hF⟩ : ∃ F, baR f = F := ⟨_, rfl⟩
    obtain ⟨V, hV⟩ : ∃ F, baR v = F := ⟨_, rfl⟩
    rw [hF, hV] at b2 ⊢
    rw [hF] at hE
    rw [hV] at hG
    clear hF hV
    cases K <;> cases E
    all_goals (
      go_enter Tryd.func41, Tryd.ntmps41
      go_wp2
      go_ret
      exact ⟨rfl, b2⟩)
  | anyId f =>
    rw [show (Pat.anyId f).takes x.step = (decide (x.step.kind = 2) && decide (x.step.txt = f)) from rfl, kb_at, tb_at]
    obtain ⟨K, hK⟩ : ∃ K, ((x.k.toNat : Int) == 2) = K := ⟨_, rfl⟩
    obtain ⟨E, hE⟩ : ∃ E, (x.t.toList == (baR f).toList) = E := ⟨_, rfl⟩
    rw [hK, hE]
    unfold kindR txtR idsR at b2 ⊢
    dsimp only at b2 ⊢
    obtain ⟨F, hF⟩ : ∃ F, baR f = F := ⟨_, rfl⟩
    rw [hF] at b2 hE ⊢
    clear hF
    cases K
    all_goals (
      go_enter Tryd.func41, Tryd.ntmps41
      go_wp2
      go_ret
      exact ⟨rfl, b2⟩)

end Go.Proofs.YtjnedbkbhoiopaaDoor
