/- Plain: the letters that torchonref18.Hold makes of works; its crossings and pins. -/
import Derived.Test.YtfnklchhhojimaaUnsM
set_option linter.unusedSimpArgs false
set_option linter.unusedVariables false
namespace Go.Proofs.Ytfnklchhhojimaa
open Go Go.RowKit Tor Brd

/-- a crossing, moved by B -/
def shf (B y : Int) : Int := if 0 < y then B + y else y - B
theorem cwL_shf (B : Int) (c : UInt8) : cwL B c = (cwL 0 c).map (shf B) := by
  unfold cwL shf
  repeat' split
  all_goals simp
  all_goals omega
theorem cwL_small (c : UInt8) : (cwL 0 c).length ≤ 2 ∧ ∀ y ∈ cwL 0 c, -3 ≤ y ∧ y ≤ 3 := by
  unfold cwL
  repeat' split
  all_goals simp
/-- the letters of a letter, of a work, of works -/
def hlC (B : Int) (c : UInt8) : List Int := (if c = 80 then [B + 1002] else []) ++ cwL B c
def hlW (x : Tri) : List Int := (if x.a = 2 then [2 * x.b + 1002] else []) ++ x.s.data.toList.flatMap (hlC (2 * x.b))
def hlL (l : List Tri) : List Int := l.flatMap hlW
theorem hlL_app (l m : List Tri) : hlL (l ++ m) = hlL l ++ hlL m := by simp [hlL]
theorem hlC_len (B : Int) (c : UInt8) : (hlC B c).length ≤ 2 := by
  unfold hlC
  rw [List.length_append]
  have := (cwL_small c).1
  rw [cwL_shf, List.length_map]
  split
  · rename_i h; subst h
    have : cwL 0 80 = [] := by decide
    rw [this]; simp
  · simp; omega
theorem flatC_len (B : Int) : ∀ s : List UInt8, (s.flatMap (hlC B)).length ≤ 2 * s.length
  | [] => by simp
  | c :: s => by
    have h1 := hlC_len B c; have h2 := flatC_len B s
    rw [List.flatMap_cons, List.length_append, List.length_cons]; omega
theorem hlW_len (x : Tri) (h : x.s.size ≤ 16) : (hlW x).length ≤ 33 := by
  unfold hlW
  have := flatC_len (2 * x.b) x.s.data.toList
  have hb := bsize x.s
  rw [List.length_append]
  have : (if x.a = 2 then [2 * x.b + 1002] else []).length ≤ 1 := by split <;> simp
  omega
theorem hlL_len : ∀ (l : List Tri), (∀ x ∈ l, x.s.size ≤ 16) → (hlL l).length ≤ 33 * l.length
  | [], _ => by simp [hlL]
  | x :: l, h => by
    have h1 := hlW_len x (h x (List.mem_cons_self ..))
    have h2 := hlL_len l (fun y hy => h y (List.mem_cons_of_mem _ hy))
    show (hlW x ++ hlL l).length ≤ _
    rw [List.length_append, List.length_cons]; omega
def crossB (y : Int) : Bool := !decide (1000 < y)
theorem filter_all {l : List Int} (p : Int → Bool) (h : ∀ y ∈ l, p y = true) : l.filter p = l := List.filter_eq_self.2 h
theorem filter_no {l : List Int} (p : Int → Bool) (h : ∀ y ∈ l, p y = false) : l.filter p = [] := List.filter_eq_nil_iff.2 fun y hy => by rw [h y hy]; simp
theorem cw_bd {B : Int} (h0 : 0 ≤ B) (h1 : B ≤ 100) {c : UInt8} {y : Int} (h : y ∈ cwL B c) : ¬ 1000 < y := by
  have := cw_mem h0 h; omega
theorem hlC_cr {B : Int} (h0 : 0 ≤ B) (h1 : B ≤ 100) (c : UInt8) : (hlC B c).filter crossB = cwL B c ∧ ((hlC B c).filter fun y => decide (1000 < y)).length = if c = 80 then 1 else 0 := by
  have f1 : (cwL B c).filter crossB = cwL B c := filter_all _ fun y hy => by have := cw_bd h0 h1 hy; simp [crossB]; omega
  have f2 : (cwL B c).filter (fun y => decide (1000 < y)) = [] := filter_no _ fun y hy => by have := cw_bd h0 h1 hy; simp; omega
  unfold hlC
  rw [List.filter_append, List.filter_append, f1, f2]
  split
  · refine ⟨?_, ?_⟩
    · rw [filter_no crossB (by intro y hy; rw [List.mem_singleton.1 hy]; simp [crossB]; omega)]; rfl
    · rw [filter_all (l := [B + 1002]) _ (by intro y hy; rw [List.mem_singleton.1 hy]; simp; omega)]; rfl
  · exact ⟨rfl, rfl⟩
theorem flatC_cr {B : Int} (h0 : 0 ≤ B) (h1 : B ≤ 100) : ∀ s : List UInt8, (s.flatMap (hlC B)).filter crossB = wdL B s ∧ ((s.flatMap (hlC B)).filter fun y => decide (1000 < y)).length = pinN s
  | [] => ⟨rfl, rfl⟩
  | c :: s => by
    obtain ⟨a1, a2⟩ := hlC_cr h0 h1 c
    obtain ⟨b1, b2⟩ := flatC_cr h0 h1 s
    rw [List.flatMap_cons, List.filter_append, List.filter_append, List.length_append, a1, a2, b1, b2, wdL_cons]
    refine ⟨rfl, ?_⟩
    unfold pinN
    rw [List.count_cons]
    by_cases h : c = 80
    · subst h; simp; omega
    · simp [h]
theorem hlW_cr {x : Tri} (h0 : 0 ≤ x.b) (h1 : x.b ≤ 50) : (hlW x).filter crossB = crW x ∧ ((hlW x).filter fun y => decide (1000 < y)).length = pnW x := by
  obtain ⟨a1, a2⟩ := flatC_cr (B := 2 * x.b) (by omega) (by omega) x.s.data.toList
  unfold hlW pnW
  rw [List.filter_append, List.filter_append, List.length_append, a1, a2]
  split
  · refine ⟨?_, ?_⟩
    · rw [filter_no crossB (by intro y hy; rw [List.mem_singleton.1 hy]; simp [crossB]; omega)]; rfl
    · rw [filter_all (l := [2 * x.b + 1002]) _ (by intro y hy; rw [List.mem_singleton.1 hy]; simp; omega)]; rfl
  · exact ⟨rfl, rfl⟩
theorem hlL_cr : ∀ {l : List Tri}, (∀ x ∈ l, 0 ≤ x.b ∧ x.b ≤ 50) → (hlL l).filter crossB = crsL l ∧ ((hlL l).filter fun y => decide (1000 < y)).length = pnsL l
  | [], _ => ⟨rfl, rfl⟩
  | x :: l, h => by
    obtain ⟨a1, a2⟩ := hlW_cr (h x (List.mem_cons_self ..)).1 (h x (List.mem_cons_self ..)).2
    obtain ⟨b1, b2⟩ := hlL_cr (l := l) fun y hy => h y (List.mem_cons_of_mem _ hy)
    have e : hlL (x :: l) = hlW x ++ hlL l := rfl
    rw [e, List.filter_append, List.filter_append, List.length_append, a1, a2, b1, b2]
    exact ⟨rfl, rfl⟩
theorem hlL_bd : ∀ {l : List Tri}, (∀ x ∈ l, 0 ≤ x.b ∧ x.b ≤ 50) → ∀ y ∈ hlL l, -2000 ≤ y ∧ y ≤ 2000 := by
  intro l h y hy
  obtain ⟨x, hx, hy⟩ := List.mem_flatMap.1 hy
  have hb := h x hx
  unfold hlW at hy
  rcases List.mem_append.1 hy with hy | hy
  · split at hy
    · rw [List.mem_singleton.1 hy]; omega
    · cases hy
  · obtain ⟨c, _, hy⟩ := List.mem_flatMap.1 hy
    unfold hlC at hy
    rcases List.mem_append.1 hy with hy | hy
    · split at hy
      · rw [List.mem_singleton.1 hy]; omega
      · cases hy
    · have := cw_mem (by omega) hy; omega
end Go.Proofs.Ytfnklchhhojimaa
