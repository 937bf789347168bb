/- Walks over package decimals: number, normal, text; no statement of the seat is proved here. -/
import Derived.Test.YtncldnghhpdolaaGreatDoorDcS2
import Derived.Lib.SmallJoins
import Derived.Lib.ItoaLen
import Derived.Lib.AtoiErrMem
import Derived.Lib.AppendIntMem
namespace Go.Proofs.YtncldnghhpdolaaGreatDoor
open Go.RowKit

theorem app_list (a b : ByteArray) : (a ++ b).data.toList = a.data.toList ++ b.data.toList := by simp [ByteArray.data_append]
/-- The library's table of powers of ten lies as its text lays it, here and in all later worlds. -/
def TAB (w : World) : Prop := ∀ w', Below w.heap.size w w' → Lib.TabIs Tryz.prog w' "internal/strconv.uint64pow10" .u64 Lib.pow10Tab
theorem TAB.later {w w' : World} (h : TAB w) (hb : Below w.heap.size w w') : TAB w' := fun w'' hb' => h w'' (hb.trans (hb'.mono hb.size))
theorem itoa_is (n : Int) (h0 : -9223372036854775808 ≤ n) (h1 : n ≤ 9223372036854775807) (t : ByteArray) (ht : t.data.toList = Lib.itoa n) (w0 w : World) (hT : TAB w0) (hb : Below w0.heap.size w0 w) :
    Calls Tryz.prog 68 #[.int .i64 n] w fun e w' => e = .returned (.string t) ∧ Below w.heap.size w w' := by
  refine (Tryz.strconv_Itoa n h0 h1 w (hT w hb)).mono ?_
  rintro e w' ⟨rfl, k, os, rfl⟩
  exact ⟨ret_str (by rw [ht]), Lib.below_grow _ _ (Nat.le_refl _) _ _⟩
theorem trimL_is (s t : ByteArray) (ht : t.data.toList = lstrip s.data.toList) (w : World) :
    Calls Tryz.prog 27 #[.string s, .string ⟨#[48]⟩] w fun e w' => e = .returned (.string t) ∧ w = w' :=
  (Tryz.strings_TrimLeft_one s 48 (by decide) w).mono fun _ _ ⟨h1, h2⟩ => ⟨h1.trans (ret_str (by rw [ht]; rfl)), h2.symm⟩
theorem trimR_is (s t : ByteArray) (hs : s.size ≤ 9223372036854775807) (ht : t.data.toList = rstrip s.data.toList) (w : World) :
    Calls Tryz.prog 67 #[.string s, .string ⟨#[48]⟩] w fun e w' => e = .returned (.string t) ∧ w = w' :=
  (Tryz.strings_TrimRight_one s 48 (by decide) w hs).mono fun _ _ ⟨h1, h2⟩ => ⟨h1.trans (ret_str (by rw [ht]; rfl)), h2.symm⟩

/-- What 'number' hands back. -/
def numK (po : List UInt8) (e : Int) : Int := if 12 < (lstrip po).length then 0 else e
theorem num_big {po : List UInt8} (hd : ∀ c ∈ po, dgB c = true) (h : 12 < (lstrip po).length) : 1000000000 < natV 0 po := by
  rw [← natV_zeros]
  show 1000000000 < natV 0 (lstrip po)
  cases e : lstrip po with
  | nil => rw [e] at h; simp at h
  | cons c t =>
    have h1 := natV_long (c := c) (l := t) (hd c (lstrip_mem (by rw [e]; simp))) (by
      have := lstrip_head po; rw [e] at this; simpa using this)
    rw [e] at h
    have : 10 ^ 12 ≤ 10 ^ t.length := Nat.pow_le_pow_right (by omega) (by simp at h; omega)
    omega
theorem num_small {po : List UInt8} (hd : ∀ c ∈ po, dgB c = true) (h : ¬ 12 < (lstrip po).length) : natV 0 po < 1000000000000 := by
  rw [← natV_zeros]
  show natV 0 (lstrip po) < _
  have h1 := natV_lt (lstrip po) 0 fun c hc => hd c (lstrip_mem hc)
  have : 10 ^ (lstrip po).length ≤ 10 ^ 12 := Nat.pow_le_pow_right (by omega) (by omega)
  omega
def expS (sg po : List UInt8) : Int := if sg = [45] then -((natV 0 po : Nat) : Int) else ((natV 0 po : Nat) : Int)
theorem numK_good {sg po : List UInt8} (hd : ∀ c ∈ po, dgB c = true) (h : inB (expS sg po) = true) : numK po (expS sg po) = expS sg po := by
  unfold numK
  split
  · rename_i h1
    have := num_big hd h1
    have h2 := inB_t.1 h
    unfold expS at h2
    split at h2 <;> omega
  · rfl
theorem numK_le {sg po : List UInt8} (hd : ∀ c ∈ po, dgB c = true) : -1000000000000 ≤ numK po (expS sg po) ∧ numK po (expS sg po) ≤ 1000000000000 := by
  unfold numK
  split
  · omega
  · rename_i h
    have := num_small hd h
    unfold expS; split <;> omega
theorem atoi_is (s : ByteArray) (n : Int) (hl : s.size ≤ 18) (h : Lib.atoi s.data.toList = some n) (w : World) :
    Calls Tryz.prog 66 #[.string s] w fun e w' => e = .returned (.tuple #[.int .i64 n, .nilIface]) ∧ Below w.heap.size w w' := by
  refine (Tryz.strconv_Atoi s n hl h w).mono ?_
  rintro e w' ⟨rfl, t, rfl⟩
  exact ⟨rfl, Lib.bytesWorld_below _ _ _⟩

set_option maxHeartbeats 1000000 in
theorem number_is (m pt ra : Bool) (wh pa sg po : ByteArray) (_hp : po.size ≤ 549755813888) (hd : ∀ c ∈ po.data.toList, dgB c = true) (k : Int) (hk : numK po.data.toList (expS sg.data.toList po.data.toList) = k) (b : Bool) (hb : inB (expS sg.data.toList po.data.toList) = b) (w : World) :
    Calls Tryz.prog 37 #[.agg #[.bool m, .string wh, .string pa, .string sg, .string po, .bool pt, .bool ra]] w fun x w' => x = .returned (.tuple #[.int .i64 k, .bool b]) ∧ Below w.heap.size w w' := by
  obtain ⟨u, hu⟩ := str_ex (lstrip po.data.toList)
  have HC := Lib.hid (fun w => trimL_is po u hu w)
  have hul : u.data.toList.length = u.size := rfl
  have hus : u.size ≤ po.size := by rw [← hul, hu, ← size_list]; exact lstrip_len _
  by_cases h12 : 12 < u.size
  · have hl : 12 < (lstrip po.data.toList).length := by rw [← hu, hul]; exact h12
    have hbig := num_big hd hl
    have hbf : b = false := by
      rw [← hb]
      unfold inB expS
      refine decide_eq_false fun q => ?_
      split at q <;> omega
    have hk0 : k = 0 := by rw [← hk, numK, if_pos hl]
    subst hbf hk0
    clear hb hk hl hbig hu hul
    go_enter Tryz.func37, Tryz.ntmps37
    go_wp2_with (go_at_call 27; (with_reducible refine (HC.out _).mono ?_); rintro x w1 ⟨rfl, rfl⟩)
    go_ret2
    exact ⟨rfl, below_new1 _ _⟩
  · have hl : ¬ 12 < (lstrip po.data.toList).length := by rw [← hu, hul]; exact h12
    have hsm := num_small hd hl
    rw [numK, if_neg hl] at hk
    obtain ⟨n, hn⟩ : ∃ n, natV 0 po.data.toList = n := ⟨_, rfl⟩
    have hnu : natV 0 u.data.toList = n := by rw [hu, ← hn]; exact natV_zeros _
    rw [hn] at hsm
    have hA := Lib.hid (fun w => atoi_is (⟨#[48]⟩ ++ u) n (by simp [ByteArray.size_append]; show 1 + u.size ≤ 18; omega) (by rw [app_list]; show Lib.atoi (48 :: u.data.toList) = _; rw [atoi_dg _ (fun c hc => hd c (lstrip_mem (hu ▸ hc))), hnu]) w)
    unfold expS at hk hb
    rw [hn] at hk hb
    clear hd hn hnu hl hu hul
    by_cases hs : sg.data.toList = [45]
    · rw [if_pos hs] at hk hb
      obtain rfl := str_is hs
      subst hk
      have HW := Lib.hid (fun w => within_is (-(n : Int)) b hb w)
      clear hb hs
      go_enter Tryz.func37, Tryz.ntmps37
      go_wp2_with (first
        | (go_at_call 27; (with_reducible refine (HC.out _).mono ?_); rintro x w1 ⟨rfl, rfl⟩)
        | (go_at_call 66; (with_reducible refine (hA.out _).mono ?_); rintro x w1 ⟨rfl, hb1⟩; have hc1 : w1.cell? ⟨w.heap.size, 3, none⟩ = some (.string ⟨#[45]⟩) := (hb1.cell (p := ⟨w.heap.size, 3, none⟩) (by simp)).trans (blk_cell (heap_new1 w _) 3))
        | (go_at_call 39; (with_reducible refine (HW.out _).mono ?_); rintro x w2 ⟨rfl, rfl⟩))
      go_ret2
      exact ⟨rfl, (below_new1 w _).trans (hb1.mono (by simp))⟩
    · rw [if_neg hs] at hk hb
      subst hk
      have HW := Lib.hid (fun w => within_is (n : Int) b hb w)
      have g1 : (sg.toList == [45]) = false := by rw [ByteArray.toList_eq]; simpa using hs
      have g2 : ¬ sg.toList = [45] := by rw [ByteArray.toList_eq]; exact hs
      clear hb hs
      go_enter Tryz.func37, Tryz.ntmps37
      go_wp2_with (first
        | (go_at_call 27; (with_reducible refine (HC.out _).mono ?_); rintro x w1 ⟨rfl, rfl⟩)
        | (go_at_call 66; (with_reducible refine (hA.out _).mono ?_); rintro x w1 ⟨rfl, hb1⟩; have hc1 : w1.cell? ⟨w.heap.size, 3, none⟩ = some (.string sg) := (hb1.cell (p := ⟨w.heap.size, 3, none⟩) (by simp)).trans (blk_cell (heap_new1 w _) 3))
        | (go_at_call 39; (with_reducible refine (HW.out _).mono ?_); rintro x w2 ⟨rfl, rfl⟩))
      go_ret2
      exact ⟨rfl, (below_new1 w _).trans (hb1.mono (by simp))⟩

/-- A decimal's value. -/
def dmV (m : Bool) (ds : ByteArray) (e : Int) : Value := .agg #[.bool m, .string ds, .int .i64 e]
set_option maxHeartbeats 1000000 in
theorem normal_is (m : Bool) (ds r : ByteArray) (n : Int) (hs : ds.size ≤ 1099511627776) (h0 : -4000000000000 ≤ n) (h1 : n ≤ 4000000000000) (m' : Bool) (e : Int) (hr : normalD m ds.data.toList n = ⟨m', r.data.toList, e⟩) (w : World) :
    Calls Tryz.prog 38 #[.bool m, .string ds, .int .i64 n] w fun x w' => x = .returned (.agg #[.bool m', .string r, .int .i64 e]) ∧ Below w.heap.size w w' := by
  obtain ⟨u, hu⟩ := str_ex (lstrip ds.data.toList)
  obtain ⟨v, hv⟩ := str_ex (rstrip u.data.toList)
  have hul : u.data.toList.length = u.size := rfl
  have hvl : v.data.toList.length = v.size := rfl
  have hus : u.size ≤ ds.size := by rw [← hul, hu, ← size_list]; exact lstrip_len _
  have hvs : v.size ≤ u.size := by rw [← hvl, hv, ← size_list]; exact rstrip_len _
  have HC := Lib.hid (fun w => trimL_is ds u hu w)
  have HD := Lib.hid (fun w => trimR_is u v (by omega) hv w)
  rw [normalD, ← hu, ← hv, hul, hvl] at hr
  by_cases h2 : v.data.toList = []
  · rw [if_pos h2] at hr
    obtain rfl := str_nil h2
    injection hr with e1 e2 e3
    obtain rfl := str_is e2.symm
    subst e1 e3
    clear hu hv hul hvl h2 e2
    go_enter Tryz.func38, Tryz.ntmps38
    go_wp2_with (first
      | (go_at_call 27; (with_reducible refine (HC.out _).mono ?_); rintro x w1 ⟨rfl, rfl⟩)
      | (go_at_call 67; (with_reducible refine (HD.out _).mono ?_); rintro x w1 ⟨rfl, rfl⟩))
    exact bodyPost_ret (v := .agg #[.bool false, .string ⟨#[48]⟩, .int .i64 0]) (by simp [results, Tryz.results38, go_sem]) rfl ⟨rfl, below_new1 _ _⟩
  · rw [if_neg h2] at hr
    injection hr with e1 e2 e3
    obtain rfl := str_of e2
    obtain ⟨g1, g2⟩ := full_of h2
    subst e1 e3
    clear hu hv hul hvl h2 e2
    go_enter Tryz.func38, Tryz.ntmps38
    go_wp2_with (first
      | (go_at_call 27; (with_reducible refine (HC.out _).mono ?_); rintro x w1 ⟨rfl, rfl⟩)
      | (go_at_call 67; (with_reducible refine (HD.out _).mono ?_); rintro x w1 ⟨rfl, rfl⟩))
    exact bodyPost_ret (v := .agg #[.bool m, .string v, .int .i64 (n + u.size - v.size)]) (by simp [results, Tryz.results38, go_sem]) rfl ⟨rfl, below_new1 _ _⟩

/-- A decimal in memory, in a world that came of w0. -/
structure DB (w0 w : World) (m : Bool) (ds : ByteArray) (e : Int) : Prop where
  blk : w.heap[w0.heap.size]? = some (.cells #[.bool m, .string ds, .int .i64 e] 49 (0, 0))
  below : Below w0.heap.size w0 w
theorem DB.facts {w0 w : World} {m : Bool} {ds : ByteArray} {e : Int} (h : DB w0 w m ds e) : w.cell? ⟨w0.heap.size, 0, none⟩ = some (.bool m) ∧ w.cell? ⟨w0.heap.size, 1, none⟩ = some (.string ds) ∧ w.cell? ⟨w0.heap.size, 2, none⟩ = some (.int .i64 e) :=
  ⟨blk_cell h.blk 0, blk_cell h.blk 1, blk_cell h.blk 2⟩
theorem DB.new (w0 : World) (m : Bool) (ds : ByteArray) (e : Int) : DB w0 (w0.alloc (.cells #[.bool m, .string ds, .int .i64 e] 49)) m ds e := ⟨heap_new1 _ _, below_new1 _ _⟩
theorem DB.later {w0 w w' : World} {m : Bool} {ds : ByteArray} {e : Int} (h : DB w0 w m ds e) (hb : Below w.heap.size w w') : DB w0 w' m ds e := ⟨blk_later h.blk hb (blk_lt h.blk), h.below.trans (hb.mono h.below.size)⟩

set_option maxHeartbeats 1000000 in
theorem text_is (m : Bool) (ds r : ByteArray) (e : Int) (hn : Norm ⟨m, ds.data.toList, e⟩) (hs : ds.size ≤ 1099511627776) (hr : (Dm.mk m ds.data.toList e).text = r.data.toList) (w : World) (hT : TAB w) :
    Calls Tryz.prog 40 #[.agg #[.bool m, .string ds, .int .i64 e]] w fun x w' => x = .returned (.string r) ∧ Below w.heap.size w w' := by
  have hin : -1000000000 ≤ e ∧ e ≤ 1000000000 := inB_t.1 hn.inb
  by_cases hz : Dm.mk m ds.data.toList e = .zero
  · rw [Dm.text, if_pos hz] at hr
    injection hz with e1 e2 e3
    obtain rfl := str_is e2
    obtain rfl := str_is hr.symm
    subst e1 e3
    clear hn hr e2 hin
    go_enter Tryz.func40, Tryz.ntmps40
    go_wp2
    go_ret
    exact ⟨rfl, below_new1 _ _⟩
  · rw [Dm.text, if_neg hz] at hr
    have hh := hn.hd.resolve_left hz
    have hne : ds.data.toList ≠ [48] := fun q => by apply hh; show ds.data.toList.head? = _; rw [q]; rfl
    have g1 : (ds.toList == [48]) = false := by rw [ByteArray.toList_eq]; simpa using hne
    have g2 : ¬ ds.toList = [48] := by rw [ByteArray.toList_eq]; exact hne
    obtain ⟨t, ht⟩ := str_ex (Lib.itoa e)
    have hH := Lib.hid hT
    obtain ⟨S, hS⟩ : ∃ S : World → Prop, S = fun w' => DB w w' m ds e := ⟨_, rfl⟩
    have hn : ∀ n : Keep S, DB w n.at_ m ds e := fun n => by have := n.ok; subst hS; exact this
    have CI : Hid (∀ n : Keep S, Calls Tryz.prog 68 #[.int .i64 e] n.at_ fun x w' => x = .returned (.string t) ∧ ∃ m : Keep S, w' = m.at_) := fun n => calls_keep (by
      refine (itoa_is e (by omega) (by omega) t ht w n.at_ hT (hn n).below).mono ?_
      rintro x w' ⟨rfl, hb⟩
      exact ⟨rfl, by subst hS; exact n.ok.later hb⟩)
    have b0 := fun n => (hn n).facts.1
    have b1 := fun n => (hn n).facts.2.1
    have b2 := fun n => (hn n).facts.2.2
    have HN := Lib.hid hn
    have HS := Lib.hid hS
    have hsz : ds.size ≤ 1099511627776 := hs
    have htl : t.size ≤ 21 := by
      have : t.data.toList.length = t.size := rfl
      rw [← this, ht]; exact Lib.itoa_length_le e (by omega) (by omega)
    have HR := Lib.hid hr
    have HTT := Lib.hid ht
    clear hne hh hz hn hS hT hr ht
    go_enter Tryz.func40, Tryz.ntmps40
    cases m
    all_goals (
      go_upto_region 6 with (fail)
      refine wp_region_keep S (by kernel_rfl) (by kernel_rfl) (by rw [HS.out]; exact ⟨heap_new1 _ _, (below_new1 _ _).drew⟩) ?_
      intro hne
      repeat (go_big_quiet_step ((go_at_call 68; with_reducible exact CI.out _)))
      refine wpQuiet_nil ?_
      intro w5 hw5
      obtain ⟨n5, hw5⟩ := hw5
      have h6 : DB w w5 _ ds e := hw5 ▸ HN.out n5
      clear hw5 b0 b1 b2
      go_wp2
      go_ret
      exact ⟨ret_str (by rw [← HR.out]; simp [HTT.out]), h6.below⟩)

end Go.Proofs.YtncldnghhpdolaaGreatDoor
