/- Walks over the law's helpers of chapter 17: key, id, matches, fails; no statement of the seat is proved here. -/
import Derived.Test.YtjnedbkbhoiopaaDoorPtR
namespace Go.Proofs.YtjnedbkbhoiopaaDoor
open Go.RowKit

theorem keyL_is (s : ByteArray) (w : World) : Calls Tryd.prog 20 #[.string s] w fun e w' => e = .returned (.agg #[.int .u8 0, .string s, .string ⟨#[]⟩, .int .i64 0]) ∧ Below w.heap.size w w' := by
  go_enter Tryd.func20, Tryd.ntmps20
  go_wp2
  exact bodyPost_ret (v := .agg #[.int .u8 0, .string s, .string ⟨#[]⟩, .int .i64 0]) (by simp [results, Tryd.results20, go_sem]) rfl ⟨rfl, below_new1 _ _⟩
theorem idL_is (s d : ByteArray) (w : World) : Calls Tryd.prog 22 #[.string s, .string d] w fun e w' => e = .returned (.agg #[.int .u8 2, .string s, .string d, .int .i64 0]) ∧ Below w.heap.size w w' := by
  go_enter Tryd.func22, Tryd.ntmps22
  go_wp2
  exact bodyPost_ret (v := .agg #[.int .u8 2, .string s, .string d, .int .i64 0]) (by simp [results, Tryd.results22, go_sem]) rfl ⟨rfl, below_new1 _ _⟩

/-- What matches answers, and fails. -/
def matchesL (s : List UInt8) (path : List PStep) : Bool := match parseL s with | .ok ps => matchL ps path | .error _ => false
def failsL (s : List UInt8) (k : Int) : Bool := match parseL s with | .ok _ => false | .error j => decide ((j : Int) = k)

theorem steps_len : ∀ (fuel : Nat) (l : List UInt8) (i : Nat) (ps qs : List Pat), stepsL l fuel i ps = .ok qs → ps.length ≤ 512 → qs.length ≤ 512
  | 0, l, i, ps, qs, h, hp => by rw [stepsL] at h; cases h; exact hp
  | fuel + 1, l, i, ps, qs, h, hp => by
    rw [stepsL] at h
    by_cases h1 : i < l.length
    · rw [if_pos h1] at h
      by_cases h5 : ps.length = 512
      · rw [if_pos h5] at h; cases h
      · rw [if_neg h5] at h
        by_cases h2 : l[i]? = some 47
        · rw [if_pos h2] at h
          cases e : keyedL l (i + 1) with
          | error k => rw [e] at h; cases h
          | ok x => rw [e] at h; exact steps_len fuel l x.2 (ps ++ [x.1]) qs h (by simp; omega)
        · rw [if_neg h2] at h
          by_cases h3 : l[i]? = some 91
          · rw [if_pos h3] at h
            cases e : listedL l (i + 1) with
            | error k => rw [e] at h; cases h
            | ok x => rw [e] at h; exact steps_len fuel l x.2 (ps ++ [x.1]) qs h (by simp; omega)
          · rw [if_neg h3] at h; cases h
    · rw [if_neg h1] at h; cases h; exact hp
theorem parse_len {l : List UInt8} {qs : List Pat} (h : parseL l = .ok qs) : qs.length ≤ 512 := by
  unfold parseL at h
  by_cases h1 : l = [46]
  · rw [if_pos h1] at h; cases h; simp
  · rw [if_neg h1] at h
    by_cases h2 : l = []
    · rw [if_pos h2] at h; cases h
    · rw [if_neg h2] at h; exact steps_len _ _ _ _ _ h (by simp)

set_option maxHeartbeats 1000000 in
theorem matches_is (s : ByteArray) (hs : s.size ≤ 1000000) (PA : Option Addr) (n pc : Nat) (path : List PS4) (hn : n = path.length) (hl : n ≤ 1000000) (w : World) (hM : PM w PA path) (x : Bool) (hx : matchesL s.data.toList (path.map PS4.step) = x) :
    Calls Tryd.prog 24 #[.string s, .slice PA n pc] w fun e w' => e = .returned (.bool x) ∧ Below w.heap.size w w' := by
  have PC := Lib.hid (parse_is s hs w)
  have HM := Lib.hid hM; have HN := Lib.hid hn
  clear hM hn
  unfold matchesL at hx
  cases hp : parseL s.data.toList with
  | error k =>
    rw [hp] at hx PC
    dsimp only at hx
    subst hx
    clear hp
    go_enter Tryd.func24, Tryd.ntmps24
    go_wp2_with (go_at_call 9; (with_reducible refine Calls.mono PC.out ?_); rintro e w1 ⟨hr, hb1⟩; have hr' := (show _ = _ from hr); subst hr'; have HB := Lib.hid hb1; clear hr)
    go_ret
    exact ⟨rfl, HB.out.trans ((below_new1 _ _).mono HB.out.size)⟩
  | ok ps =>
    rw [hp] at hx PC
    have hpl := parse_len hp
    dsimp only at hx
    have HX := Lib.hid hx
    clear hp hx
    go_enter Tryd.func24, Tryd.ntmps24
    go_wp2_with (first
      | (go_at_call 9; (with_reducible refine Calls.mono PC.out ?_); rintro e w1 ⟨⟨base, b, A, c, q, hq, rfl, hP⟩, hb1⟩; have hql : q.length ≤ 1000000 := (by have : ps.length = q.length := (by rw [hq]; simp); omega); have MC := Lib.hid (fun o : Obj => match_is base b A c q (w1.alloc o) (hP.keep (below_new1 _ _) (Nat.le_refl _)) PA pc path (HM.out.keep (hb1.trans ((below_new1 _ _).mono hb1.size)) (Nat.le_refl _)) (by have := HN.out; omega) hql n HN.out); have HQ := Lib.hid hq; have HB := Lib.hid hb1; clear hq hP hb1 hql)
      | (go_at_call 10; (with_reducible refine (MC.out _).mono ?_); rintro e w2 ⟨rfl, hb2⟩))
    go_ret
    exact ⟨ret_boo (by rw [← HX.out, HQ.out]), HB.out.trans (((below_new1 _ _).mono HB.out.size).trans (hb2.mono (by have := HB.out.size; simp; omega)))⟩

set_option maxHeartbeats 1000000 in
theorem fails_is (s : ByteArray) (hs : s.size ≤ 1000000) (k : Int) (w : World) (x : Bool) (hx : failsL s.data.toList k = x) :
    Calls Tryd.prog 25 #[.string s, .int .i64 k] w fun e w' => e = .returned (.bool x) ∧ Below w.heap.size w w' := by
  have PC := Lib.hid (parse_is s hs w)
  unfold failsL at hx
  cases hp : parseL s.data.toList with
  | error j =>
    rw [hp] at hx PC
    dsimp only at hx
    have hx' : ((j : Int) == k) = x := by rw [← hx]; rfl
    have HX := Lib.hid hx'
    clear hp hx hx'
    go_enter Tryd.func25, Tryd.ntmps25
    go_wp2_with (go_at_call 9; (with_reducible refine Calls.mono PC.out ?_); rintro e w1 ⟨hr, hb1⟩; have hr' := (show _ = _ from hr); subst hr'; have HB := Lib.hid hb1; clear hr)
    all_goals (
      go_ret
      exact ⟨ret_boo (by rw [← HX.out]; simp_all), HB.out.trans ((below_new1 _ _).mono HB.out.size)⟩)
  | ok ps =>
    rw [hp] at hx PC
    dsimp only at hx
    subst hx
    clear hp
    go_enter Tryd.func25, Tryd.ntmps25
    go_wp2_with (go_at_call 9; (with_reducible refine Calls.mono PC.out ?_); rintro e w1 ⟨⟨base, b, A, c, q, hq, rfl, hP⟩, hb1⟩; have HB := Lib.hid hb1; clear hq hP hb1)
    go_ret
    exact ⟨rfl, HB.out.trans ((below_new1 _ _).mono HB.out.size)⟩

/-- A path that is made at once. -/
def cellsP (x : PS4) : List Value := [.int .u8 (x.k.toNat : Int), .string x.t, .string x.d, .int .i64 x.a]
def rowP (l : List PS4) : List Value := l.flatMap cellsP
theorem rowP_get {q : List PS4} {k : Nat} (h : k < q.length) (r : Nat) (hr : r < 4) : (rowP q)[k * 4 + r]? = (cellsP q[k])[r]? := by
  induction q generalizing k with
  | nil => simp at h
  | cons x q ih =>
    have e : rowP (x :: q) = cellsP x ++ rowP q := rfl
    have e3 : (cellsP x).length = 4 := rfl
    rw [e]
    cases k with
    | zero => rw [List.getElem?_append_left (by omega)]; simp
    | succ k =>
      rw [List.getElem?_append_right (by omega), e3, show (k + 1) * 4 + r - 4 = k * 4 + r by omega]
      exact ih (by simpa using h)
theorem PM.made (w : World) (path : List PS4) (cs : Array Value) (T : TypeId) (hc : cs.toList = rowP path) : PM (w.alloc (.cells cs T)) (some ⟨w.heap.size, 0, none⟩) path := by
  intro j hj
  have cell : ∀ r, r < 4 → (w.alloc (.cells cs T)).cell? ⟨w.heap.size, 0 + j * 4 + r, none⟩ = (cellsP path[j])[r]? := by
    intro r hr
    rw [blk_cell (heap_new1 w _), ← rowP_get hj r hr, ← hc, Nat.zero_add]; simp
  exact ⟨w.heap.size, 0, rfl, by simp, cell 0 (by omega), cell 1 (by omega), cell 2 (by omega), cell 3 (by omega)⟩

end Go.Proofs.YtjnedbkbhoiopaaDoor
