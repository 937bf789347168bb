/- The law's helpers: Twin, Left, Same; no statement of the seat is proved here. -/
import Derived.Test.YtjiejpjdbimjkaaJtRefF
import Derived.Test.YtjiejpjdbimjkaaJtL
import Derived.Test.YtjiejpjdbimjkaaApp
import Derived.Deep.DeepAppendRoom
namespace Go.Proofs.Ytjiejpjdbimjkaa
open Go.RowKit

/-- 'append(x, b...)' of bytes that came in, where there is room. -/
theorem append_bs_room {P : Program} (w : World) (base : Nat) (t ty e : TypeId) (i : TypeInfo) (ht : P.underlying t = some (.slice e)) (hi : P.info? e = some i) (hsize : i.size = 1)
    (g n cap : Nat) (xs : List Value) (hown : w.ownsRow base e 1 (.slice (some ⟨g, 0, none⟩) n cap) n xs)
    (B : Nat) (A : Option Addr) (l : List UInt8) (c : Nat) (hB : BS w B A l) (hroom : n + l.length ≤ cap) :
    ∃ w', (Builtin.append_ #[t, t] ty #[.slice (some ⟨g, 0, none⟩) n cap, .slice A l.length c]).run P w = .ok (.slice (some ⟨g, 0, none⟩) (n + l.length) cap) w' ∧
      w'.ownsRow base e 1 (.slice (some ⟨g, 0, none⟩) (n + l.length) cap) (n + l.length) (xs ++ byteVals l) ∧ w.grownBy w' (some g) := by
  rcases A with _ | ad
  · have : l = [] := by
      cases l with
      | nil => rfl
      | cons x r => obtain ⟨a, e, _⟩ := hB 0 (by simp); cases e
    subst this
    exact ⟨w, append_none_run w base t ty e i 1 ht hi _ n xs hown c, by simpa [byteVals] using hown, World.grownBy.refl w _⟩
  · refine run_append_own_spare w base t ty e i 1 ht hi hsize g n cap xs hown ad l.length c (byteVals l) (by rw [byteVals_len]; omega) (fun j u hj => ?_) (fun u hu => ?_) hroom
    · have hlt : j < l.length := by have := (List.getElem?_eq_some_iff.1 hj).1; rwa [byteVals_len] at this
      obtain ⟨a', e', _, hc⟩ := hB j hlt
      cases e'
      rw [hc]
      simp [byteVals, hlt] at hj
      rw [← hj]
    · simp [byteVals] at hu; obtain ⟨b, _, rfl⟩ := hu; rfl
theorem wpList_append_bs_room {P : Program} (w : World) {ops : Array Oper} {rest : List Oper} {o : Oper} {a : Act} {Q : Exit → Act → World → Prop} (hgd : o.guard = none) (s x : Operand) (t : TypeId)
    (ho : o.op = .call { callee := .builtin .append, args := #[s, x], argTypes := #[t, t] })
    (base : Nat) (e : TypeId) (i : TypeInfo) (ht : P.underlying t = some (.slice e)) (hi : P.info? e = some i) (hsize : i.size = 1)
    (g n cap : Nat) (xs : List Value) (hs : a.eval s = .slice (some ⟨g, 0, none⟩) n cap) (hown : w.ownsRow base e 1 (.slice (some ⟨g, 0, none⟩) n cap) n xs)
    (B : Nat) (A : Option Addr) (m : Nat) (l : List UInt8) (hm : m = l.length) (c : Nat) (hx : a.eval x = .slice A m c) (hB : BS w B A l) (hroom : n + m ≤ cap)
    (h : ∀ w', w'.ownsRow base e 1 (.slice (some ⟨g, 0, none⟩) (n + m) cap) (n + m) (xs ++ byteVals l) → w.grownBy w' (some g) → wpList P ops Q rest (a.put o.dst (.slice (some ⟨g, 0, none⟩) (n + m) cap)) w') : wpList P ops Q (o :: rest) a w := by
  subst hm
  refine wpList_plain hgd fun K hK => ?_
  obtain ⟨w', hrun, h2, h3⟩ := append_bs_room (P := P) w base t o.type e i ht hi hsize g n cap xs hown B A l c hB hroom
  unfold Oper.wp execOp
  simp only [ho, resolve, invoke, builtin, Sem.run_bind, Sem.run_pure, Result.andThen_ok, List.map_toArray, List.map_cons, List.map_nil, hs, hx, hrun]
  exact hK _ _ (h w' h2 h3)

theorem byteVals_get (l : List UInt8) (k : Nat) (h : k < (byteVals l).length) (h2 : k < l.length) : some (byteVals l)[k] = some (Value.int .u8 ((l[k].toNat : Nat) : Int)) := by simp [byteVals]
def pad3 : List UInt8 := [167, 167, 167]
theorem byte_info1 : (Try.prog.info? 5).map (fun i => (i.zero, i.size, i.bytes)) = some (some (.int .u8 0), 1, 1) := by kernel_rfl

theorem make_bytes {P : Program} (t e : TypeId) (i : TypeInfo) (ht : P.underlying t = some (.slice e)) (hi : P.info? e = some i) (hz : i.zero = some (.int .u8 0)) (hs : i.size = 1) (hb : i.bytes = 1)
    (w : World) (c : Nat) (hc : c ≤ 281474976710656) :
    (Instr.makeSlice t (.int .i64 0) (.int .i64 (c : Int))).run P w = .ok (.slice (some ⟨w.heap.size, 0, none⟩) 0 c) (w.alloc (.cells (madeCells #[.int .u8 0] c) e)) := by
  have hr := run_make (P := P) w t e i _ ht hi hz .i64 .i64 0 c (Int.le_refl _) (by omega) (by rw [hb]; omega) (by omega)
  simp only [Int.toNat_zero, Int.toNat_natCast, hs, Nat.mul_one] at hr
  exact hr

set_option maxHeartbeats 1000000 in
theorem twin_any (A : Option Addr) (l : List UInt8) (c : Nat) (_hlc : l.length ≤ c) (hl : l.length ≤ 16777216) (w : World) (hB : BS w w.heap.size A l) :
    Calls Try.prog 7 #[.slice A l.length c] w fun e w' => e = .returned (.slice (some ⟨w.heap.size, 0, none⟩) l.length (l.length + 3)) ∧ BS w' w'.heap.size (some ⟨w.heap.size, 0, none⟩) (l ++ pad3) ∧ Below w.heap.size w w' := by
  obtain ⟨i0, hi, hz0, hz1, hz2⟩ := info_parts byte_info1
  have hmk := fun W => make_bytes (P := Try.prog) 22 5 i0 Try.underlying22 hi hz0 hz1 hz2 W (l.length + 3) (by omega)
  simp only [Int.natCast_add, Int.cast_ofNat_Int] at hmk
  have HB := Lib.hid hB; clear hB
  go_enter Try.func7, Try.ntmps7
  go_wp2_with (first
    | (at_builtin; refine wpList_append_bs_room _ rfl (.tmp 8) (.tmp 9) 22 rfl w.heap.size 5 i0 Try.underlying22 hi hz1 w.heap.size 0 (l.length + 3) [] rfl ?h1 w.heap.size A l.length l rfl c rfl ?h2 (by omega) ?_; rotate_left 2; intro w1 hown1 hg1; simp only [Nat.zero_add, List.nil_append] at hown1 ⊢; have HO1 := Lib.hid hown1; clear hown1)
    | (at_builtin; refine wpList_append_bs_room _ rfl (.tmp 11) (.tmp 12) 22 rfl w.heap.size 5 i0 Try.underlying22 hi hz1 w.heap.size l.length (l.length + 3) (byteVals l) rfl ?h3 (w1.heap.size + 1) (some ⟨w1.heap.size, 0, none⟩) 3 pad3 rfl 3 rfl ?h4 (by omega) ?_; rotate_left 2; intro w2 hown2 hg2; have HO2 := Lib.hid hown2; clear hown2))
  case h1 => exact World.ownsRow_made w _ (l.length + 3) (Nat.le_refl _) (by simp only [maxLen]; omega) (by rw [size_madeCells, Nat.mul_one])
  case h2 => exact HB.out.below (below_new1 w _)
  case h3 => exact own_keep HO1.out (below_new1 w1 _) (Nat.le_refl _)
  case h4 => exact BS.made w1 pad3 _ _
  go_ret
  have hown := HO2.out
  rw [← byteVals_app] at hown
  have hO := OwnS.of_own hown
  have hB1 : Below w.heap.size w w1 := (below_new1 w _).grown hg1 (by simp) (fun q hq => by cases hq; exact Nat.le_refl _)
  refine ⟨rfl, ?_, (hB1.trans ((below_new1 w1 _).mono hB1.size)).grown hg2 (by have := hB1.size; rw [size_new1]; omega) (fun q hq => by cases hq; exact Nat.le_refl _)⟩
  intro k hk
  obtain ⟨g, hA, _, hg, hc⟩ := hO.cell (j := k) (by simp [pad3] at hk ⊢; omega)
  cases hA
  exact ⟨_, rfl, hg, by rw [add_plain, Nat.zero_add, hc, byteVals_get]⟩

/-- Bytes with the twin's room behind. -/
theorem pad_at (l : List UInt8) (k : Nat) (h1 : l.length ≤ k) (h2 : k < (l ++ pad3).length) : (l ++ pad3)[k] = 167 := by
  rw [List.getElem_append_right h1]
  have hj : ∀ j (h : j < pad3.length), pad3[j] = 167 := by decide
  exact hj _ _

theorem BS.pre {w : World} {B : Nat} {A : Option Addr} {l z : List UInt8} (h : BS w B A (l ++ z)) : BS w B A l := by
  have := h.take l.length
  rwa [List.take_left] at this

set_option maxHeartbeats 1000000 in
theorem left_any (A C : Option Addr) (l : List UInt8) (c : Nat) (_hlc : l.length ≤ c) (hl : l.length ≤ 16777216) (w : World) {B : Nat} (hA : BS w B A (l ++ pad3)) {B' : Nat} (hC : BS w B' C l) :
    Calls Try.prog 14 #[.slice A l.length (l.length + 3), .slice C l.length c] w fun e w' => e = .returned (.bool true) ∧ w = w' := by
  have hcv1 := fun W (h : BS W B A l) => conv_bs (P := Try.prog) W 22 9 5 Try.underlying22 Try.underlying5 Try.underlying9 h (l.length + 3)
  have hcv2 := fun W (h : BS W B' C l) => conv_bs (P := Try.prog) W 22 9 5 Try.underlying22 Try.underlying5 Try.underlying9 h c
  have e1 := hcv1 w hA.pre
  have e2 := hcv2 w hC
  clear hcv1 hcv2 hC
  have HA := Lib.hid hA; clear hA
  have hlen : (l ++ pad3).length = l.length + 3 := by simp [pad3]
  go_enter Try.func14, Try.ntmps14
  go_wp2
  go_loopg [6] 3 (fun n s6 wr => ∃ k : Nat, s6 = .int .i64 k ∧ l.length ≤ k ∧ k ≤ l.length + 3 ∧ Hid (n = l.length + 3 - k) ∧ wr = w)
  case atStart => exact ⟨l.length, rfl, Nat.le_refl _, by omega, (by show _ = _; omega), rfl⟩
  case round =>
    obtain ⟨k, rfl, hk1, hk2, hn, rfl⟩ := hrel
    by_cases hlt : k < l.length + 3
    · obtain ⟨a, rfl, hab, hca⟩ := HA.out k (by omega)
      rw [pad_at l k hk1] at hca
      go_wp2
      go_roundg (l.length + 3 - (k + 1))
      case measure => have := hn.out; omega
      case rel => exact ⟨k + 1, by simp, by omega, by omega, rfl, rfl⟩
    · go_wp2
      go_ret
      exact ⟨rfl, rfl⟩

theorem same_any (k f e k' f' e' : Int) (hk : 0 ≤ k ∧ k ≤ 255) (h1 : k = k') (h2 : f = f') (h3 : e = e') (w : World) :
    Calls Try.prog 13 #[.agg #[.int .u8 k, .int .i64 f, .int .i64 e], .agg #[.int .i64 k', .int .i64 f', .int .i64 e']] w fun e w' => e = .returned (.bool true) ∧ Below w.heap.size w w' := by
  subst h1 h2 h3
  go_enter Try.func13, Try.ntmps13
  go_wp2
  go_ret
  exact ⟨rfl, below_new2 _ _ _⟩

end Go.Proofs.Ytjiejpjdbimjkaa
