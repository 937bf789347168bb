/- The walk over the law's Other; no statement of the seat is proved here. -/
import Derived.Test.YtpafadfaphaoeaaDoorPcV
namespace Go.Proofs.YtpafadfaphaoeaaDoor
open Go.RowKit

def Pc.ocells (p : Pc) : Array Value := #[.int .i64 (p.kind.toNat : Int), .int .u8 (p.side.toNat : Int), .int .i64 p.lo, .int .i64 p.hi, .string p.txt]
def ocellsL (l : List Pc) : List Value := l.flatMap fun p => p.ocells.toList
theorem ocellsL_app (l m : List Pc) : ocellsL (l ++ m) = ocellsL l ++ ocellsL m := by unfold ocellsL; rw [List.flatMap_append]
theorem ocellsL_len : ∀ l : List Pc, (ocellsL l).length = l.length * 5
  | [] => rfl
  | p :: l => by
    have := ocellsL_len l
    have e : ocellsL (p :: l) = p.ocells.toList ++ ocellsL l := rfl
    rw [e, List.length_append, this, List.length_cons]
    show 5 + _ = _
    omega
theorem ocellsL_get (l : List Pc) (j : Nat) (h : j < l.length) (r : Nat) (hr : r < 5) : (ocellsL l)[j * 5 + r]? = l[j].ocells[r]? := by
  have e : l = l.take j ++ l[j] :: l.drop (j + 1) := by rw [List.getElem_cons_drop, List.take_append_drop]
  have hl : (ocellsL (l.take j)).length = j * 5 := by rw [ocellsL_len, List.length_take, Nat.min_eq_left (by omega)]
  obtain ⟨p, hp⟩ : ∃ p, l[j] = p := ⟨_, rfl⟩
  rw [hp] at e ⊢
  rw [e, ocellsL_app, List.getElem?_append_right (by omega), hl, show j * 5 + r - j * 5 = r by omega]
  show (p.ocells.toList ++ ocellsL _)[r]? = _
  rw [List.getElem?_append_left (by show r < 5; exact hr)]
  simp
/-- The reference's pieces in memory. -/
def OcM (w : World) (A : Option Addr) (l : List Pc) : Prop := ∀ j (h : j < l.length), ∃ g off, A = some ⟨g, off, none⟩ ∧ g < w.heap.size ∧ ∀ r, r < 5 → w.cell? ⟨g, off + j * 5 + r, none⟩ = l[j].ocells[r]?
theorem OcM.keep {w w' : World} {A : Option Addr} {l : List Pc} (h : OcM w A l) {B : Nat} (hb : Below B w w') (hB : w.heap.size ≤ B) : OcM w' A l := by
  intro j hj
  obtain ⟨g, off, e, hg, hc⟩ := h j hj
  exact ⟨g, off, e, by have := hb.size; omega, fun r hr => (hb.cell (by show g < B; omega)).trans (hc r hr)⟩
def OI (w W : World) (A : Option Addr) (m c : Nat) (l : List Pc) : Prop := W.ownsRow w.heap.size 54 5 (.slice A m c) m (ocellsL l) ∧ m = l.length ∧ Below w.heap.size w W
theorem OI.mem {w W : World} {A : Option Addr} {m c : Nat} {l : List Pc} (h : OI w W A m c l) : OcM W A l := by
  intro j hj
  have hj' : j < m := by rw [h.2.1]; exact hj
  obtain ⟨g, cur, hA, _, hh, h4⟩ := (OwnS.of_own h.1).at_ (by omega)
  refine ⟨g, 0, hA, blk_lt hh, fun x hx => ?_⟩
  rw [blk_cell hh, Nat.zero_add, ← ocellsL_get _ j hj x hx, ← h4, List.getElem?_take, if_pos (by omega)]
  simp
theorem opiece_info : (Tryd.prog.info? 54).map (fun i => (i.zero, i.size, i.bytes)) = some (some (.agg #[.int .i64 0, .int .u8 0, .int .i64 0, .int .i64 0, .string ⟨#[]⟩]), 5, 48) := by kernel_rfl
theorem ocells_one {p : Pc} (u : Value) (hu : u ∈ p.ocells.toList) : u.oneCell' = true := by
  simp [Pc.ocells] at hu
  rcases hu with rfl | rfl | rfl | rfl | rfl <;> rfl
theorem step_app1 {P : Program} (w : World) {ops : Array Oper} {o : Oper} {a : Act} {K : Act → World → Prop} {Q : Exit → Act → World → Prop} {E : Prop} (hgd : o.guard = none) (s x : Operand) (t : TypeId)
    (ho : o.op = .call { callee := .builtin .append, args := #[s, x], argTypes := #[t, t] })
    (base : Nat) (e : TypeId) (i : TypeInfo) (z : Value) (size bytes : Nat) (ht : P.underlying t = some (.slice e)) (hi : P.info? e = some i) (hz : i.zero = some z)
    (hsize : i.size = size) (hby : i.bytes = bytes) (hzs : z.cells.size = size) (hsz : 0 < size)
    (A : Option Addr) (n c : Nat) (xs : List Value) (hs : a.eval s = .slice A n c) (hown : w.ownsRow base e size (.slice A n c) n xs)
    (news : List Value) (fz : Nat × Nat) (hx : a.eval x = .slice (some ⟨w.heap.size, 0, none⟩) 1 1) (hl : news.length = size) (h1 : ∀ u ∈ news, u.oneCell' = true)
    (hn : n ≤ 16777216) (hb8 : bytes ≤ 4096) (hbase : base ≤ w.heap.size)
    (h : ∀ A' c' w', w'.ownsRow base e size (.slice A' (n + 1) c') (n + 1) (xs ++ news) → n + 1 ≤ c' → Below base w w' → K (a.put o.dst (.slice A' (n + 1) c')) w') :
    if Region.wanted o (yielded ops a.tmps) = true then Oper.wp P o a (w.alloc (.cells news.toArray e fz)) K Q else E := by
  have hw : Region.wanted o (yielded ops a.tmps) = true := by simp [Region.wanted, hgd]
  rw [if_pos hw]
  exact wp_app1 w s x t ho base e i z size bytes ht hi hz hsize hby hzs hsz A n c xs hs hown news fz hx hl h1 hn hb8 hbase h

set_option maxRecDepth 100000 in
set_option maxHeartbeats 8000000 in
theorem other_is (LA : Option Addr) (n cap : Nat) (l : List Pc) (hn : n = l.length) (hn1 : n ≤ 3000) (w : World) (hM : PcM w LA l) :
    Calls Tryd.prog 11 #[.slice LA n cap] w fun e w' => (∃ A c, e = .returned (.slice A n c) ∧ OcM w' A l) ∧ Below w.heap.size w w' := by
  have HM := Lib.hid hM; have HN := Lib.hid hn
  have hO0 : OI w w none 0 0 (l.take 0) := ⟨World.ownsRow_nil _ _ _ _, rfl, Below.refl _ _⟩
  have HO0 := Lib.hid hO0
  obtain ⟨i0, hi0, hz0, hz1, hz2⟩ := info_parts opiece_info
  have Hi := Lib.hid hi0; have Hz0 := Lib.hid hz0; have Hz1 := Lib.hid hz1; have Hz2 := Lib.hid hz2
  clear hM hn hO0 hi0 hz0 hz1 hz2
  go_enter Tryd.func11, Tryd.ntmps11
  go_wp2
  go_loopg [3, 4] n (fun q s3 s4 wr => ∃ (k : Nat) (A : Option Addr) (c : Nat), s4 = .int .i64 (k : Int) ∧ s3 = .slice A k c ∧ k ≤ n ∧ Hid (q = n - k) ∧ Hid (OI w wr A k c (l.take k)))
  case atStart => exact ⟨0, none, 0, rfl, rfl, by omega, by show _ = _; omega, HO0⟩
  case round =>
    obtain ⟨k, A, c, rfl, rfl, hk, hq, HO⟩ := hrel
    by_cases hlt : k < n
    · have hkl : k < l.length := by have := HN.out; omega
      obtain ⟨g, off, rfl, hg, hc⟩ := (HM.out.keep HO.out.2.2 (Nat.le_refl _)) k hkl
      have htk := List.take_succ_eq_append_getElem hkl
      obtain ⟨⟨kd, sd, lo, hi, tx⟩, hp⟩ : ∃ p, l[k] = p := ⟨_, rfl⟩
      rw [hp] at hc htk
      have p0 : wr.drew.cell? ⟨g, off + k * 5, none⟩ = some (.int .u8 (kd.toNat : Int)) := hc 0 (by omega)
      have p1 : wr.drew.cell? ⟨g, off + k * 5 + 1, none⟩ = some (.int .u8 (sd.toNat : Int)) := hc 1 (by omega)
      have p2 : wr.drew.cell? ⟨g, off + k * 5 + 2, none⟩ = some (.int .i64 lo) := hc 2 (by omega)
      have p3 : wr.drew.cell? ⟨g, off + k * 5 + 3, none⟩ = some (.int .i64 hi) := hc 3 (by omega)
      have p4 : wr.drew.cell? ⟨g, off + k * 5 + 4, none⟩ = some (.string tx) := hc 4 (by omega)
      have HTK := Lib.hid htk
      have hki : (k : Int) < (n : Int) := by omega
      have hki0 : (0 : Int) ≤ (k : Int) := by omega
      have hkw : wrap64 (kd.toNat : Int) = (kd.toNat : Int) := by unfold wrap64; have := kd.toNat_lt; omega
      have hkw' : IntKind.i64.wrap (kd.toNat : Int) = (kd.toNat : Int) := by have := kd.toNat_lt; exact IntWalk.i64_in _ (by omega)
      have hod : wr.drew.ownsRow w.heap.size 54 5 (.slice A k c) k (ocellsL (l.take k)) := HO.out.1
      have HOD := Lib.hid hod
      have hbs : w.heap.size ≤ wr.drew.heap.size := HO.out.2.2.size
      clear hc hp htk hod
      go_wp2
      go_region_law (refine step_app1 _ rfl (.tmp 11) (.tmp 34) 40 rfl w.heap.size 54 i0 _ 5 48 Tryd.underlying40 Hi.out Hz0.out Hz1.out Hz2.out rfl (by decide) A k c (ocellsL (l.take k)) (by simp [Act.eval]) HOD.out (Pc.ocells ⟨kd, sd, lo, hi, tx⟩).toList _ (by simp [Act.eval]) rfl ocells_one (by omega) (by decide) hbs ?_; intro A' c' w5 hown' hcc hb5; have HO5 := Lib.hid (show w5.ownsRow w.heap.size 54 5 (.slice A' (k + 1) c') (k + 1) (ocellsL (l.take k) ++ (Pc.ocells ⟨kd, sd, lo, hi, tx⟩).toList) ∧ Below w.heap.size w w5 from ⟨hown', HO.out.2.2.drew.trans hb5⟩); clear hown' hb5)
      all_goals (
        go_wp2
        go_roundg (n - (k + 1))
        case measure => have := hq.out; omega
        case rel => exact ⟨k + 1, A', c', by go_num, rfl, by omega, rfl, by show OI _ _ _ _ _ _; rw [HTK.out]; exact ⟨by rw [ocellsL_app]; simpa [ocellsL] using HO5.out.1, by simp; omega, HO5.out.2⟩⟩)
    · have hkn : k = n := by omega
      subst hkn
      have ho := HO.out
      rw [show l.take k = l by rw [HN.out, List.take_length]] at ho
      have HOE := Lib.hid ho
      clear ho
      go_wp2
      go_ret
      exact ⟨⟨A, c, rfl, HOE.out.mem⟩, HOE.out.2.2⟩

end Go.Proofs.YtpafadfaphaoeaaDoor
