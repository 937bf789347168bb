/- Plain laws for PatternsOne and PatternsStars: what a path of keys and ids is as a pattern; no program in them, and no statement of the seat is proved here. -/
import Derived.Test.YtjnedbkbhoiopaaDoorPtQ
import Derived.Test.YtjnedbkbhoiopaaDoorPtS
namespace Go.Proofs.YtjnedbkbhoiopaaDoor
open Go.RowKit

theorem par_u8 : ∀ k : UInt8, (k % 2 == 0) = decide (k.toNat % 2 = 0) := u8_all (by decide +kernel)
/-- A step as the law takes it: a key, or an id. -/
def isKey (x : PS4) : Bool := decide (x.k.toNat % 2 = 0)
def asP (x : PS4) : PS4 := if isKey x then ⟨0, x.t, ⟨#[]⟩, 0⟩ else ⟨2, x.t, x.d, 0⟩
def textP (x : PS4) : List UInt8 := if isKey x then 47 :: encW x.t.data.toList else 91 :: (encW x.t.data.toList ++ 61 :: (encW x.d.data.toList ++ [93]))
def patP (x : PS4) : Pat := if isKey x then .key x.t.data.toList else .id x.t.data.toList x.d.data.toList
theorem textP_stepT (x : PS4) : StepT (textP x) (patP x) := by
  unfold textP patP
  cases isKey x
  · exact .id (encW_enc _) encW_head (encW_enc _) encW_head
  · exact .key (encW_enc _) encW_head
theorem patP_any (x : PS4) : (patP x).any = false := by unfold patP; cases isKey x <;> rfl
def textsP (l : List PS4) : List UInt8 := l.flatMap textP
theorem textsP_steps (l : List PS4) : StepsT (textsP l) (l.map patP) := by
  induction l with
  | nil => exact .nil
  | cons x l ih => exact .cons (textP_stepT x) ih
theorem textP_ne (x : PS4) : textP x ≠ [] := by unfold textP; cases isKey x <;> simp
theorem textsP_parse (l : List PS4) (hl : l.length ≤ 30) : parseL (if l = [] then [46] else textsP l) = .ok (l.map patP) := by
  cases l with
  | nil => rfl
  | cons x l =>
    rw [if_neg (by simp)]
    refine parse_steps (textsP_steps _) (by rw [List.length_map]; omega) ?_
    show textP x ++ _ ≠ []
    intro h
    exact textP_ne x (List.append_eq_nil_iff.1 h).1
theorem encW_len (l : List UInt8) : (encW l).length = 3 * l.length := by
  induction l with
  | nil => rfl
  | cons c l ih => show (encC c ++ encW l).length = _; rw [List.length_append, ih]; simp [encC]; omega
theorem bal (s : ByteArray) : s.data.toList.length = s.size := rfl
theorem textP_len (x : PS4) (ht : x.t.size ≤ 60) (hd : x.d.size ≤ 60) : (textP x).length ≤ 400 := by
  unfold textP
  cases isKey x
  · simp [encW_len]; omega
  · simp [encW_len]; omega
theorem textsP_len (l : List PS4) (h : ∀ x ∈ l, x.t.size ≤ 60 ∧ x.d.size ≤ 60) : (textsP l).length ≤ 400 * l.length := by
  induction l with
  | nil => simp [textsP]
  | cons x l ih =>
    have a := ih (fun y hy => h y (List.mem_cons_of_mem _ hy))
    have b := textP_len x (h x (List.mem_cons_self ..)).1 (h x (List.mem_cons_self ..)).2
    show (textP x ++ textsP l).length ≤ _
    rw [List.length_append, List.length_cons]; omega
/-- What the pattern of a step takes: what the law calls the same. -/
def sameP (x o : PS4) : Bool :=
  if isKey x then decide (o.k.toNat = 0) && decide (o.t = x.t) else decide (o.k.toNat = 2) && decide (o.t = x.t) && decide (o.d = x.d)
theorem ba_eq {a b : ByteArray} : a.data.toList = b.data.toList ↔ a = b := ⟨fun h => bytes_ext h, fun h => by rw [h]⟩
theorem takes_sameP (x o : PS4) : (patP x).takes o.step = sameP x o := by
  unfold patP sameP PS4.step
  cases isKey x
  · show (decide (((o.k.toNat : Int)) = 2) && decide (o.t.data.toList = x.t.data.toList) && decide (o.d.data.toList = x.d.data.toList)) = _
    rw [show decide (((o.k.toNat : Int)) = 2) = decide (o.k.toNat = 2) by rw [decide_eq_decide]; omega]
    simp only [ba_eq]; rfl
  · show (decide (((o.k.toNat : Int)) = 0) && decide (o.t.data.toList = x.t.data.toList)) = _
    rw [show decide (((o.k.toNat : Int)) = 0) = decide (o.k.toNat = 0) by rw [decide_eq_decide]; omega]
    simp only [ba_eq]; rfl
theorem asP_same (x : PS4) : sameP x (asP x) = true := by
  unfold sameP asP
  cases h : isKey x <;> simp
theorem takes_as (x : PS4) : (patP x).takes (asP x).step = true := by rw [takes_sameP, asP_same]
theorem one_patP {l : List PS4} : ∀ p ∈ l.map patP, p.any = false := by
  intro p hp
  obtain ⟨x, _, rfl⟩ := List.mem_map.1 hp
  exact patP_any x
/-- The pattern matches the path. -/
theorem match_path (l : List PS4) : matchL (l.map patP) ((l.map asP).map PS4.step) = true := by
  rw [match_one one_patP]
  refine ⟨by simp, fun k p s hp hs => ?_⟩
  rw [List.getElem?_map] at hp
  rw [List.getElem?_map, List.getElem?_map] at hs
  cases e : l[k]? with
  | none => rw [e] at hp; cases hp
  | some x => rw [e] at hp hs; cases hp; cases hs; exact takes_as x
/-- It matches none of another length. -/
theorem match_len (l : List PS4) (path : List PS4) (h : path.length ≠ l.length) : matchL (l.map patP) (path.map PS4.step) = false := by
  rw [Bool.eq_false_iff]
  intro e
  rw [match_one one_patP] at e
  exact h (by simpa using e.1)
/-- With one step changed it matches just if the new one is the same. -/
theorem match_set (l : List PS4) (i : Nat) (hi : i < l.length) (o : PS4) : matchL (l.map patP) (((l.map asP).set i o).map PS4.step) = sameP l[i] o := by
  rw [Bool.eq_iff_iff, match_one one_patP]
  constructor
  · intro ⟨_, h⟩
    have := h i (patP l[i]) o.step (by simp [hi]) (by simp [hi])
    rwa [takes_sameP] at this
  · intro h
    refine ⟨by simp, fun k p s hp hs => ?_⟩
    rw [List.getElem?_map] at hp
    rw [List.getElem?_map, List.getElem?_set] at hs
    by_cases hk : i = k
    · subst hk
      rw [if_pos rfl, if_pos (by simpa using hi)] at hs
      rw [List.getElem?_eq_getElem hi] at hp
      cases hp; cases hs
      rw [takes_sameP]; exact h
    · rw [if_neg hk, List.getElem?_map] at hs
      cases e : l[k]? with
      | none => rw [e] at hp; cases hp
      | some x => rw [e] at hp hs; cases hp; cases hs; exact takes_as x
theorem textsP_snoc (l : List PS4) (k : Nat) (h : k < l.length) : textsP (l.take (k + 1)) = textsP (l.take k) ++ textP l[k] := by
  rw [List.take_succ_eq_append_getElem h]; unfold textsP; rw [List.flatMap_append, List.flatMap_cons, List.flatMap_nil, List.append_nil]
theorem spell_lenU (l : List UInt8) : (spellL l).length ≤ 3 * l.length := by
  induction l with
  | nil => simp [spellL]
  | cons c l ih =>
    show (spellC c ++ spellL l).length ≤ _
    rw [List.length_append, List.length_cons]
    have : (spellC c).length ≤ 3 := by unfold spellC; split <;> simp
    omega
theorem patP_len (x : PS4) (ht : x.t.size ≤ 60) (hd : x.d.size ≤ 60) : (patP x).text.length ≤ 400 := by
  have a := spell_lenU x.t.data.toList
  have b := spell_lenU x.d.data.toList
  rw [bal] at a b
  unfold patP
  cases isKey x <;> simp [Pat.text] <;> omega
theorem textL_len (l : List PS4) (h : ∀ x ∈ l, x.t.size ≤ 60 ∧ x.d.size ≤ 60) : ((l.map patP).flatMap Pat.text).length ≤ 400 * l.length ∧ (textL (l.map patP)).length ≤ 400 * l.length + 1 := by
  have e : ((l.map patP).flatMap Pat.text).length ≤ 400 * l.length := by
    induction l with
    | nil => simp
    | cons x l ih =>
      have a := ih (fun y hy => h y (List.mem_cons_of_mem _ hy))
      have b := patP_len x (h x (List.mem_cons_self ..)).1 (h x (List.mem_cons_self ..)).2
      show ((patP x).text ++ (l.map patP).flatMap Pat.text).length ≤ _
      rw [List.length_append, List.length_cons]; omega
  refine ⟨e, ?_⟩
  unfold textL
  split
  · simp
  · omega
theorem word_spell (s : ByteArray) : wordL (spellL s.data.toList) = (s.data.toList, (spellL s.data.toList).length, none) := by
  have := (spellL_enc s.data.toList).stop (r := []) wordL_nil
  rwa [List.append_nil] at this
theorem word_enc (s : ByteArray) : wordL (encW s.data.toList) = (s.data.toList, (encW s.data.toList).length, none) := by
  have := (encW_enc s.data.toList).stop (r := []) wordL_nil
  rwa [List.append_nil] at this

end Go.Proofs.YtjnedbkbhoiopaaDoor
