/- Plain laws on floats' texts: what the program reads, what the reference reads, that they are the same; lists and numbers alone: no statement of the seat is proved here. -/
import Derived.Test.YtncldnghhpdolaaGreatDoorDcW
import Derived.Test.YtncldnghhpdolaaGreatDoorInQ
namespace Go.Proofs.YtncldnghhpdolaaGreatDoor

def infL : List UInt8 := [105, 110, 102]
def nanL : List UInt8 := [110, 97, 110]
/-- A special value of a text; empty: it is none. -/
def specL (l : List UInt8) : List UInt8 :=
  if l.dropWhile isSig = infL then (if 3 < l.length ∧ l.head? = some 45 then 45 :: infL else infL) else if l.dropWhile isSig = nanL then nanL else []
def sgN (l : List UInt8) : Nat := (l.takeWhile isSig).length
/-- A text cut ahead of the first such byte. -/
def cutL (p : UInt8 → Bool) (l : List UInt8) : List UInt8 × List UInt8 × Bool := if l.any p then (l.takeWhile (fun c => !p c), (l.dropWhile (fun c => !p c)).tail, true) else (l, [], false)
def digF (l : List UInt8) : Bool := rightB (dgs 10) l
def powF (l : List UInt8) : Bool := digF (if hdB isSig l then l.tail else l)
def trimP (l : List UInt8) : List UInt8 := if l.head? = some 43 then l.tail else l
/-- Is a text taken? -/
def accP (l : List UInt8) : Bool :=
  ((cutL isDot (cutL isExp l).1).2.2 || (cutL isExp l).2.2) && (decide ((readI (cutL isDot (cutL isExp l).1).1).2 ≠ 3) && ((!(cutL isDot (cutL isExp l).1).2.2 || digF (cutL isDot (cutL isExp l).1).2.1) && (!(cutL isExp l).2.2 || powF (cutL isExp l).2.1)))
/-- What the program reads. -/
def fltP (l : List UInt8) : List UInt8 × Int := if specL l ≠ [] ∧ sgN l < 2 then (specL l, 0) else if accP l = true then readD (trimP (lowless l)) else ([], 3)

/-- How many bytes a run of digits has, single marks between; p: behind a digit. -/
def runE : Bool → List UInt8 → Nat
  | _, [] => 0
  | p, c :: r => if dgB c = true then 1 + runE true r else if c = 95 ∧ p = true ∧ hdB dgB r = true then 1 + runE false r else 0
theorem runE_le : ∀ (l : List UInt8) (p : Bool), runE p l ≤ l.length
  | [], _ => Nat.le_refl _
  | c :: r, p => by
    rw [runE]
    split
    · have := runE_le r true; simp; omega
    · split
      · have := runE_le r false; simp; omega
      · simp
/-- What the reference reads, by its steps. -/
def signR (l : List UInt8) : List UInt8 := if l.head? = some 45 then [45] else []
def behR (l : List UInt8) : List UInt8 := if hdB isSig l then l.tail else l
def runD (l : List UInt8) : List UInt8 := lowless (l.take (runE false l))
def restR (l : List UInt8) : List UInt8 := l.drop (runE false l)
def expR (sg : List UInt8) (more : Bool) (l : List UInt8) : List UInt8 × Int :=
  if hdB isExp l = true then
    if runD (behR l.tail) = [] then ([], 3)
    else if restR (behR l.tail) ≠ [] then ([], 3) else readD (sg ++ (101 :: ((if hdB isSig l.tail then l.tail.take 1 else []) ++ runD (behR l.tail))))
  else if l ≠ [] ∨ more = false then ([], 3) else readD sg
def fltR (l : List UInt8) : List UInt8 × Int :=
  if behR l = infL then (signR l ++ infL, 0) else if behR l = nanL then (nanL, 0)
  else if runD (behR l) = [] ∨ (1 < (runD (behR l)).length ∧ (runD (behR l)).head? = some 48) then ([], 3)
  else if hdB isDot (restR (behR l)) = true then
    if runD (restR (behR l)).tail = [] then ([], 3) else expR (signR l ++ (runD (behR l) ++ (46 :: runD (restR (behR l)).tail))) true (restR (restR (behR l)).tail)
  else expR (signR l ++ runD (behR l)) false (restR (behR l))

/-! ### Runs of digits -/
/-- Digits, at least one, single marks between. -/
def MD (X : List UInt8) : Prop := X ≠ [] ∧ scanQ 10 false X 0 ≠ none
theorem md_iff (X : List UInt8) : digF X = true ↔ MD X := by
  unfold digF MD
  cases X with
  | nil => simp [right_nil]
  | cons c r =>
    rw [right_scan (q := 10) (by unfold Base4; simp) (by simp)]
    constructor
    · intro h; refine ⟨by simp, ?_⟩; rw [if_pos h]; simp
    · rintro ⟨_, h⟩
      cases e : rightB (dgs 10) (c :: r)
      · rw [e] at h; exact absurd rfl h
      · rfl
theorem dg_iff (c : UInt8) : dgB c = true ↔ digV c < 10 := ⟨fun h => by have := dgB_t.1 h; rw [digV_dg h]; omega, digV_10⟩
/-- scanQ does not hang on the number. -/
theorem scan_num : ∀ (l : List UInt8) (p : Bool) (n m : Nat), scanQ 10 p l n = none ↔ scanQ 10 p l m = none
  | [], _, _, _ => by simp [scanQ]
  | c :: r, p, n, m => by
    rw [scanQ, scanQ]
    split
    · split
      · simp
      · exact scan_num r false n m
    · split
      · exact scan_num r true _ _
      · simp
/-- What a run takes is digits and marks; what is left begins with no digit. -/
theorem run_take : ∀ (l : List UInt8) (p : Bool) (n : Nat), (p = true ∨ runE p l ≠ 0) → scanQ 10 p (l.take (runE p l)) n ≠ none
  | [], p, n, h => by simp [scanQ]
  | c :: r, p, n, h => by
    rw [runE] at h ⊢
    by_cases hc : dgB c = true
    · rw [if_pos hc, Nat.add_comm, List.take_succ_cons, scanQ, if_neg (dg_ne95 hc), if_pos ((dg_iff c).1 hc)]
      exact run_take r true _ (.inl rfl)
    · rw [if_neg hc] at h ⊢
      by_cases hm : c = 95 ∧ p = true ∧ hdB dgB r = true
      · rw [if_pos hm, Nat.add_comm, List.take_succ_cons, scanQ, if_pos hm.1]
        have hr : runE false r ≠ 0 := by
          cases r with
          | nil => have := hm.2.2; cases this
          | cons d k =>
            have hd : dgB d = true := hm.2.2
            rw [runE, if_pos hd]; omega
        rw [if_neg]
        · exact run_take r false n (.inr hr)
        · rintro (e | e)
          · rw [hm.2.1] at e; cases e
          · cases r with
            | nil => have := hm.2.2; cases this
            | cons d k =>
              obtain ⟨q, hq⟩ : ∃ q, runE false (d :: k) = q + 1 := ⟨runE false (d :: k) - 1, by omega⟩
              rw [hq] at e; cases e
      · rw [if_neg hm] at h ⊢
        rw [List.take_zero]
        simp [scanQ]
theorem run_rest : ∀ (l : List UInt8) (p : Bool), hdB dgB (l.drop (runE p l)) = false
  | [], _ => rfl
  | c :: r, p => by
    rw [runE]
    by_cases hc : dgB c = true
    · rw [if_pos hc, Nat.add_comm, List.drop_succ_cons]; exact run_rest r true
    · rw [if_neg hc]
      by_cases hm : c = 95 ∧ p = true ∧ hdB dgB r = true
      · rw [if_pos hm, Nat.add_comm, List.drop_succ_cons]; exact run_rest r false
      · rw [if_neg hm, List.drop_zero]
        simpa [hdB] using hc
/-- Digits and marks, and behind them neither: the run is just these. -/
theorem run_all : ∀ (X t : List UInt8) (p : Bool) (n : Nat), scanQ 10 p X n ≠ none → (X = [] → p = true ∨ True) → hdB dgB t = false → (hdB (· == 95) t = false) → runE p (X ++ t) = X.length
  | [], t, p, n, _, _, h1, h2 => by
    cases t with
    | nil => rfl
    | cons c r =>
      have e1 : dgB c = false := h1
      have e2 : (c == 95) = false := h2
      rw [List.nil_append, runE, e1, if_neg (by simp), if_neg (fun e => by rw [e.1] at e2; cases e2)]; rfl
  | c :: r, t, p, n, h, _, h1, h2 => by
    rw [scanQ] at h
    rw [List.cons_append, runE]
    by_cases hc : c = 95
    · rw [if_pos hc] at h
      by_cases hm : p = false ∨ r = []
      · rw [if_pos hm] at h; exact absurd rfl h
      · rw [if_neg hm] at h
        have hp : p = true := by
          cases p
          · exact absurd (.inl rfl) hm
          · rfl
        cases r with
        | nil => exact absurd (.inr rfl) hm
        | cons d k =>
          have hd : dgB d = true := by
            rw [scanQ] at h
            by_cases h95 : d = 95
            · rw [if_pos h95, if_pos (.inl rfl)] at h; exact absurd rfl h
            · rw [if_neg h95] at h
              by_cases h10 : digV d < 10
              · exact digV_10 h10
              · rw [if_neg h10] at h; exact absurd rfl h
          have hcd : ¬ dgB c = true := by rw [hc]; decide
          rw [if_neg hcd, if_pos ⟨hc, hp, hd⟩, run_all (d :: k) t false n h (fun _ => .inr trivial) h1 h2]
          simp only [List.length_cons]
          omega
    · rw [if_neg hc] at h
      by_cases h10 : digV c < 10
      · rw [if_pos h10] at h
        rw [if_pos (digV_10 h10), run_all r t true _ h (fun _ => .inl rfl) h1 h2]
        simp only [List.length_cons]
        omega
      · rw [if_neg h10] at h; exact absurd rfl h
theorem md_chars {X : List UInt8} (h : scanQ 10 false X 0 ≠ none) : ∀ c ∈ X, c = 95 ∨ dgB c = true := by
  have g : ∀ (l : List UInt8) (p : Bool) (n : Nat), scanQ 10 p l n ≠ none → ∀ c ∈ l, c = 95 ∨ dgB c = true := by
    intro l
    induction l with
    | nil => intro _ _ _ c hc; cases hc
    | cons c r ih =>
      intro p n h x hx
      rw [scanQ] at h
      split at h
      · rename_i h95
        split at h
        · exact absurd rfl h
        · rcases List.mem_cons.1 hx with rfl | hx
          · exact .inl h95
          · exact ih _ _ h x hx
      · split at h
        · rename_i h10
          rcases List.mem_cons.1 hx with rfl | hx
          · exact .inr (digV_10 h10)
          · exact ih _ _ h x hx
        · exact absurd rfl h
  exact g X false 0 h
theorem md_head {X : List UInt8} (h : MD X) : hdB dgB X = true := by
  obtain ⟨h0, h⟩ := h
  cases X with
  | nil => exact absurd rfl h0
  | cons c r =>
    rw [scanQ] at h
    by_cases h95 : c = 95
    · rw [if_pos h95, if_pos (.inl rfl)] at h; exact absurd rfl h
    · rw [if_neg h95] at h
      by_cases h10 : digV c < 10
      · exact digV_10 h10
      · rw [if_neg h10] at h; exact absurd rfl h
/-- Not begun by a digit or a mark. -/
def offB (t : List UInt8) : Prop := hdB dgB t = false ∧ hdB (· == 95) t = false
theorem md_run {X t : List UInt8} (h : MD X) (ht : offB t) : runE false (X ++ t) = X.length := run_all X t false 0 h.2 (fun _ => .inr trivial) ht.1 ht.2
theorem md_runD {X t : List UInt8} (h : MD X) (ht : offB t) : runD (X ++ t) = lowless X ∧ restR (X ++ t) = t := by
  unfold runD restR
  rw [md_run h ht, List.take_left', List.drop_left'] <;> simp
theorem lowless_ne' {dg l : List UInt8} (h : rightB dg l = true) : lowless l ≠ [] := by
  cases l with
  | nil => rw [right_nil] at h; cases h
  | cons c r =>
    by_cases hc : c = 95
    · subst hc
      unfold rightB at h
      rw [spl, if_pos rfl, List.all_cons] at h
      simp [partB] at h
    · unfold lowless; rw [List.filter_cons_of_pos (by simpa using hc)]; simp
theorem low_ne {X : List UInt8} (h : MD X) : lowless X ≠ [] := lowless_ne' ((md_iff X).2 h)
theorem run_md {l : List UInt8} (h : runD l ≠ []) : MD (l.take (runE false l)) := by
  have h0 : runE false l ≠ 0 := fun e => h (by unfold runD; rw [e]; rfl)
  refine ⟨?_, run_take l false 0 (.inr h0)⟩
  intro e
  have h1 := congrArg List.length e
  rw [List.length_take, List.length_nil] at h1
  have h2 := runE_le l false
  omega
theorem low_dg {X : List UInt8} (h : ∀ c ∈ X, c = 95 ∨ dgB c = true) : ∀ c ∈ lowless X, dgB c = true := by
  intro c hc
  unfold lowless at hc
  rw [List.mem_filter] at hc
  rcases h c hc.1 with e | e
  · rw [e] at hc; simp at hc
  · exact e
theorem low_app (a b : List UInt8) : lowless (a ++ b) = lowless a ++ lowless b := by unfold lowless; rw [List.filter_append]
theorem low_cons {c : UInt8} (h : c ≠ 95) (l : List UInt8) : lowless (c :: l) = c :: lowless l := by unfold lowless; rw [List.filter_cons_of_pos (by simpa using h)]

end Go.Proofs.YtncldnghhpdolaaGreatDoor
