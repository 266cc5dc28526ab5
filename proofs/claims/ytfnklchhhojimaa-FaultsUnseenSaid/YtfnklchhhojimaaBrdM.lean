/- Plain: simple braids, what slides between them, and why the normal form of a word does not change if letters that do not touch are exchanged, or a letter and its inverse put in. -/
import Derived.Lib.ItoaNum
set_option linter.unusedSimpArgs false
set_option linter.unusedVariables false
namespace Go.Proofs.Ytfnklchhhojimaa
namespace Brd
/-- exchange of i - 1 and i -/
def sx (i x : Nat) : Nat := if x + 1 = i then i else if x = i then i - 1 else x
theorem sx_sx {i x : Nat} (h : 1 ≤ i) : sx i (sx i x) = x := by
  unfold sx; split <;> split <;> (try split) <;> omega
theorem sx_lt {i n x : Nat} (hi : i < n) (hx : x < n) : sx i x < n := by
  unfold sx; split <;> (try split) <;> omega
theorem sx_far {i x : Nat} (h1 : x + 1 ≠ i) (h2 : x ≠ i) : sx i x = x := by
  unfold sx; rw [if_neg h1, if_neg h2]
theorem sx_lo {i : Nat} (h : 1 ≤ i) : sx i (i - 1) = i := by
  unfold sx; rw [if_pos (by omega)]
theorem sx_hi {i : Nat} : sx i i = i - 1 := by
  unfold sx; rw [if_neg (by omega), if_pos rfl]
theorem sx_comm {i j x : Nat} (h : i + 1 < j ∨ j + 1 < i) (hi : 1 ≤ i) (hj : 1 ≤ j) : sx i (sx j x) = sx j (sx i x) := by
  unfold sx; repeat' split
  all_goals omega
theorem sx_braid {i x : Nat} (hi : 1 ≤ i) : sx i (sx (i + 1) (sx i x)) = sx (i + 1) (sx i (sx (i + 1) x)) := by
  by_cases h1 : x + 1 = i
  · have e1 : sx i x = i := by unfold sx; rw [if_pos h1]
    have e2 : sx (i + 1) i = i + 1 := by unfold sx; rw [if_pos rfl]
    have e3 : sx i (i + 1) = i + 1 := sx_far (by omega) (by omega)
    have e4 : sx (i + 1) x = x := sx_far (by omega) (by omega)
    rw [e1, e2, e3, e4, e1, e2]
  by_cases h2 : x = i
  · subst h2
    have e1 : sx x x = x - 1 := sx_hi
    have e2 : sx (x + 1) (x - 1) = x - 1 := sx_far (by omega) (by omega)
    have e3 : sx x (x - 1) = x := sx_lo hi
    have e4 : sx (x + 1) x = x + 1 := by unfold sx; rw [if_pos rfl]
    have e5 : sx x (x + 1) = x + 1 := sx_far (by omega) (by omega)
    have e6 : sx (x + 1) (x + 1) = x := by rw [sx_hi]; rfl
    rw [e1, e2, e3, e4, e5, e6]
  by_cases h3 : x = i + 1
  · subst h3
    have e1 : sx i (i + 1) = i + 1 := sx_far (by omega) (by omega)
    have e2 : sx (i + 1) (i + 1) = i := by rw [sx_hi]; rfl
    have e3 : sx i i = i - 1 := sx_hi
    have e4 : sx (i + 1) (i - 1) = i - 1 := sx_far (by omega) (by omega)
    rw [e1, e2, e3, e4]
  · have e1 : sx i x = x := sx_far h1 h2
    have e2 : sx (i + 1) x = x := sx_far (by omega) (by omega)
    rw [e1, e2, e1, e2]
theorem sx_lt_lt {i x y : Nat} (h : x < y) (hn : ¬ (x + 1 = i ∧ y = i)) : sx i x < sx i y := by
  unfold sx; repeat' split
  all_goals omega
theorem sx_eq_lo {i x : Nat} (hi : 1 ≤ i) : sx i x = i - 1 ↔ x = i := by
  unfold sx; repeat' split
  all_goals omega
theorem sx_eq_hi {i x : Nat} (hi : 1 ≤ i) : sx i x = i ↔ x + 1 = i := by
  unfold sx; repeat' split
  all_goals omega

/-- a permutation of the numbers below n -/
structure PermL (n : Nat) (p : List Nat) : Prop where
  len : p.length = n
  nd : p.Nodup
  lt : ∀ x ∈ p, x < n
  all : ∀ x, x < n → x ∈ p

def at_ (p : List Nat) (x : Nat) : Nat := p.getD x 0
def iv (p : List Nat) (v : Nat) : Nat := p.idxOf v

theorem at_mem {p : List Nat} {x : Nat} (h : x < p.length) : at_ p x ∈ p := by
  unfold at_; rw [List.getD_eq_getElem?_getD, List.getElem?_eq_getElem h]; exact List.getElem_mem h
theorem at_eq {p : List Nat} {x : Nat} (h : x < p.length) : at_ p x = p[x] := by
  unfold at_; rw [List.getD_eq_getElem?_getD, List.getElem?_eq_getElem h]; rfl
theorem PermL.at_lt {n : Nat} {p : List Nat} (h : PermL n p) {x : Nat} (hx : x < n) : at_ p x < n := h.lt _ (at_mem (by rw [h.len]; exact hx))
theorem PermL.iv_lt {n : Nat} {p : List Nat} (h : PermL n p) {v : Nat} (hv : v < n) : iv p v < n := by
  have := List.idxOf_lt_length_of_mem (h.all v hv)
  rw [h.len] at this; exact this
theorem PermL.at_iv {n : Nat} {p : List Nat} (h : PermL n p) {v : Nat} (hv : v < n) : at_ p (iv p v) = v := by
  have hl := List.idxOf_lt_length_of_mem (h.all v hv)
  unfold iv; rw [at_eq hl]; exact List.getElem_idxOf hl
theorem PermL.inj {n : Nat} {p : List Nat} (h : PermL n p) {x y : Nat} (hx : x < n) (hy : y < n) (e : at_ p x = at_ p y) : x = y := by
  rw [at_eq (by rw [h.len]; exact hx), at_eq (by rw [h.len]; exact hy)] at e
  refine Classical.byContradiction fun hne => ?_
  have hp := List.pairwise_iff_getElem.1 h.nd
  rcases Nat.lt_or_gt_of_ne hne with hl | hl
  · exact hp x y _ _ hl e
  · exact hp y x _ _ hl e.symm
theorem PermL.iv_at {n : Nat} {p : List Nat} (h : PermL n p) {x : Nat} (hx : x < n) : iv p (at_ p x) = x :=
  h.inj (h.iv_lt (h.at_lt hx)) hx (h.at_iv (h.at_lt hx))
theorem PermL.iv_eq {n : Nat} {p : List Nat} (h : PermL n p) {x v : Nat} (hx : x < n) (e : at_ p x = v) : iv p v = x := by rw [← e]; exact h.iv_at hx
theorem PermL.ext {n : Nat} {p q : List Nat} (h : PermL n p) (k : PermL n q) (e : ∀ x, x < n → at_ p x = at_ q x) : p = q := by
  apply List.ext_getElem (by rw [h.len, k.len])
  intro i h1 h2
  have := e i (by rw [← h.len]; exact h1)
  rw [at_eq h1, at_eq h2] at this; exact this

/-- the list of a function -/
def lst (n : Nat) (f : Nat → Nat) : List Nat := (List.range n).map f
theorem at_lst {n : Nat} {f : Nat → Nat} {x : Nat} (h : x < n) : at_ (lst n f) x = f x := by
  unfold at_ lst; rw [List.getD_eq_getElem?_getD, List.getElem?_map, List.getElem?_range h]; rfl
theorem permL_lst {n : Nat} (f g : Nat → Nat) (hf : ∀ x, x < n → f x < n) (hg : ∀ x, x < n → g x < n) (hgf : ∀ x, x < n → g (f x) = x) (hfg : ∀ x, x < n → f (g x) = x) : PermL n (lst n f) := by
  refine ⟨by simp [lst], ?_, ?_, ?_⟩
  · unfold lst
    rw [List.Nodup, List.pairwise_map]
    refine List.Pairwise.imp_of_mem ?_ (List.nodup_range (n := n))
    intro a b ha hb hab he
    have h1 := hgf a (List.mem_range.1 ha); have h2 := hgf b (List.mem_range.1 hb)
    rw [he] at h1; exact hab (h1.symm.trans h2)
  · intro x hx
    obtain ⟨y, hy, rfl⟩ := List.mem_map.1 hx
    exact hf y (List.mem_range.1 hy)
  · intro x hx
    exact List.mem_map.2 ⟨g x, List.mem_range.2 (hg x hx), hfg x hx⟩

/-- a permutation whose strands at the ends i - 1 and i are exchanged -/
def aft (p : List Nat) (i : Nat) : List Nat := p.map (sx i)
/-- a permutation whose strands that begin at i - 1 and i are exchanged -/
def swp (p : List Nat) (i : Nat) : List Nat := lst p.length fun x => at_ p (sx i x)
theorem at_aft {p : List Nat} {i x : Nat} (h : x < p.length) : at_ (aft p i) x = sx i (at_ p x) := by
  unfold aft at_; rw [List.getD_eq_getElem?_getD, List.getD_eq_getElem?_getD, List.getElem?_map, List.getElem?_eq_getElem h]; rfl
theorem at_swp {p : List Nat} {i x : Nat} (h : x < p.length) : at_ (swp p i) x = at_ p (sx i x) := at_lst h
theorem PermL.aft {n : Nat} {p : List Nat} (h : PermL n p) {i : Nat} (h1 : 1 ≤ i) (hi : i < n) : PermL n (aft p i) := by
  refine ⟨by simp [Brd.aft, h.len], ?_, ?_, ?_⟩
  · unfold Brd.aft
    rw [List.Nodup, List.pairwise_map]
    refine List.Pairwise.imp ?_ h.nd
    intro a b hab he
    exact hab (by rw [← sx_sx (x := a) h1, he, sx_sx h1])
  · intro x hx
    obtain ⟨y, hy, rfl⟩ := List.mem_map.1 hx
    exact sx_lt hi (h.lt y hy)
  · intro x hx
    exact List.mem_map.2 ⟨sx i x, h.all _ (sx_lt hi hx), sx_sx h1⟩
theorem PermL.swp {n : Nat} {p : List Nat} (h : PermL n p) {i : Nat} (h1 : 1 ≤ i) (hi : i < n) : PermL n (swp p i) := by
  unfold Brd.swp; rw [h.len]
  refine permL_lst _ (fun v => sx i (iv p v)) ?_ ?_ ?_ ?_
  · intro x hx; exact h.at_lt (sx_lt hi hx)
  · intro x hx; exact sx_lt hi (h.iv_lt hx)
  · intro x hx
    show sx i (iv p (at_ p (sx i x))) = x
    rw [h.iv_at (sx_lt hi hx), sx_sx h1]
  · intro x hx
    show at_ p (sx i (sx i (iv p x))) = x
    rw [sx_sx h1, h.at_iv hx]
theorem PermL.iv_aft {n : Nat} {p : List Nat} (h : PermL n p) {i v : Nat} (h1 : 1 ≤ i) (hi : i < n) (hv : v < n) : iv (Brd.aft p i) v = iv p (sx i v) := by
  have hs := sx_lt hi hv
  refine (h.aft h1 hi).iv_eq (h.iv_lt hs) ?_
  rw [at_aft (by rw [h.len]; exact h.iv_lt hs), h.at_iv hs, sx_sx h1]
theorem PermL.iv_swp {n : Nat} {p : List Nat} (h : PermL n p) {i v : Nat} (h1 : 1 ≤ i) (hi : i < n) (hv : v < n) : iv (Brd.swp p i) v = sx i (iv p v) := by
  refine (h.swp h1 hi).iv_eq (sx_lt hi (h.iv_lt hv)) ?_
  rw [at_swp (by rw [h.len]; exact sx_lt hi (h.iv_lt hv)), sx_sx h1, h.at_iv hv]

/-- b begins with i, and a does not end with it -/
def Can (n : Nat) (a b : List Nat) (i : Nat) : Prop := 1 ≤ i ∧ i < n ∧ at_ b i < at_ b (i - 1) ∧ iv a (i - 1) < iv a i

inductive Step (n : Nat) : List (List Nat) → List (List Nat) → Prop
  | here (a b : List Nat) (Y : List (List Nat)) (i : Nat) (h : Can n a b i) : Step n (a :: b :: Y) (aft a i :: swp b i :: Y)
  | there (p : List Nat) (L M : List (List Nat)) (h : Step n L M) : Step n (p :: L) (p :: M)

def AllP (n : Nat) (L : List (List Nat)) : Prop := ∀ p ∈ L, PermL n p
theorem AllP.tail {n : Nat} {p : List Nat} {L : List (List Nat)} (h : AllP n (p :: L)) : AllP n L := fun q hq => h q (List.mem_cons_of_mem _ hq)
theorem AllP.head {n : Nat} {p : List Nat} {L : List (List Nat)} (h : AllP n (p :: L)) : PermL n p := h p (List.mem_cons_self ..)
theorem AllP.cons {n : Nat} {p : List Nat} {L : List (List Nat)} (hp : PermL n p) (h : AllP n L) : AllP n (p :: L) := by
  intro q hq
  rcases List.mem_cons.1 hq with rfl | hq
  · exact hp
  · exact h q hq
theorem AllP.app {n : Nat} {L M : List (List Nat)} (h : AllP n L) (k : AllP n M) : AllP n (L ++ M) := by
  intro q hq
  rcases List.mem_append.1 hq with hq | hq
  · exact h q hq
  · exact k q hq
theorem AllP.nil {n : Nat} : AllP n [] := fun _ h => by cases h
theorem Step.allP {n : Nat} {L M : List (List Nat)} (s : Step n L M) (h : AllP n L) : AllP n M := by
  induction s with
  | here a b Y i c => exact AllP.cons (h.head.aft c.1 c.2.1) (AllP.cons (h.tail.head.swp c.1 c.2.1) h.tail.tail)
  | there p L M s ih => exact AllP.cons h.head (ih h.tail)
theorem Step.length {n : Nat} {L M : List (List Nat)} (s : Step n L M) : M.length = L.length := by
  induction s with
  | here a b Y i c => rfl
  | there p L M s ih => simp [ih]

/-- sums -/
def sm : Nat → (Nat → Nat) → Nat
  | 0, _ => 0
  | n + 1, f => sm n f + f n
theorem sm_congr {n : Nat} {f g : Nat → Nat} (h : ∀ x, x < n → f x = g x) : sm n f = sm n g := by
  induction n with
  | zero => rfl
  | succ n ih => unfold sm; rw [ih (fun x hx => h x (by omega)), h n (by omega)]
theorem sm_one {n : Nat} {f g : Nat → Nat} {u : Nat} (hu : u < n) (h : ∀ x, x < n → x ≠ u → f x = g x) : sm n f + g u = sm n g + f u := by
  induction n with
  | zero => omega
  | succ n ih =>
    unfold sm
    by_cases e : u = n
    · subst e; rw [sm_congr (f := f) (g := g) (fun x hx => h x (by omega) (by omega))]; omega
    · have := ih (by omega) (fun x hx hn => h x (by omega) hn); rw [h n (by omega) (fun e2 => e e2.symm)]; omega
theorem sm_two {n : Nat} {f g : Nat → Nat} {u v : Nat} (hu : u < n) (hv : v < n) (huv : u ≠ v) (h : ∀ x, x < n → x ≠ u → x ≠ v → f x = g x) : sm n f + g u + g v = sm n g + f u + f v := by
  let k : Nat → Nat := fun x => if x = u then g x else f x
  have ku : k u = g u := by simp [k]
  have kv : k v = f v := by simp [k, Ne.symm huv]
  have h1 : sm n f + k u = sm n k + f u := sm_one hu (fun x _ hx => by simp [k, hx])
  have h2 : sm n k + g v = sm n g + k v := sm_one hv (fun x hx hn => by
    by_cases e : x = u
    · simp [k, e]
    · simp only [k, if_neg e]; exact h x hx e hn)
  omega
theorem sm_le {n : Nat} {f : Nat → Nat} {B : Nat} (h : ∀ x, x < n → f x ≤ B) : sm n f ≤ n * B := by
  induction n with
  | zero => simp [sm]
  | succ n ih => unfold sm; have := ih (fun x hx => h x (by omega)); have := h n (by omega); rw [Nat.succ_mul]; omega
/-- the weight of a permutation -/
def fm (n : Nat) (p : List Nat) : Nat := sm n fun x => x * at_ p x
theorem fm_le {n : Nat} {p : List Nat} (h : PermL n p) : fm n p ≤ n * (n * n) :=
  sm_le fun x hx => Nat.mul_le_mul (by omega) (by have := h.at_lt hx; omega)
theorem fm_aft {n : Nat} {p : List Nat} (h : PermL n p) {i : Nat} (h1 : 1 ≤ i) (hi : i < n) (hc : iv p (i - 1) < iv p i) : fm n (aft p i) < fm n p := by
  have hu := h.iv_lt (show i - 1 < n by omega); have hv := h.iv_lt hi
  have au := h.at_iv (show i - 1 < n by omega); have av := h.at_iv hi
  have := sm_two (f := fun x => x * at_ p x) (g := fun x => x * at_ (aft p i) x) hu hv (by omega) (by
    intro x hx n1 n2
    show x * at_ p x = x * at_ (aft p i) x
    rw [at_aft (by rw [h.len]; exact hx), sx_far]
    · intro e; exact n1 (by rw [show i - 1 = at_ p x by omega, h.iv_at hx])
    · intro e; exact n2 (by rw [← e, h.iv_at hx]))
  rw [at_aft (by rw [h.len]; exact hu), at_aft (by rw [h.len]; exact hv), au, av, sx_lo h1, sx_hi] at this
  unfold fm
  obtain ⟨j, rfl⟩ : ∃ j, i = j + 1 := ⟨i - 1, by omega⟩
  simp only [Nat.add_sub_cancel, Nat.mul_succ] at *
  omega
theorem fm_swp {n : Nat} {p : List Nat} (h : PermL n p) {i : Nat} (h1 : 1 ≤ i) (hi : i < n) (hc : at_ p i < at_ p (i - 1)) : fm n p < fm n (swp p i) := by
  have := sm_two (n := n) (u := i - 1) (v := i) (f := fun x => x * at_ p x) (g := fun x => x * at_ (swp p i) x) (by omega) hi (by omega) (by
    intro x hx n1 n2
    show x * at_ p x = x * at_ (swp p i) x
    rw [at_swp (by rw [h.len]; exact hx), sx_far (by omega) n2])
  rw [at_swp (by rw [h.len]; omega), at_swp (by rw [h.len]; omega), sx_lo h1, sx_hi] at this
  unfold fm
  obtain ⟨j, rfl⟩ : ∃ j, i = j + 1 := ⟨i - 1, by omega⟩
  simp only [Nat.add_sub_cancel, Nat.succ_mul] at *
  omega

def bs (n : Nat) : Nat := n * (n * n) + 1
/-- the weight of a list, the first ones weigh most -/
def mu (n : Nat) : List (List Nat) → Nat
  | [] => 0
  | p :: L => fm n p * bs n ^ L.length + mu n L
theorem mu_lt {n : Nat} : ∀ {L : List (List Nat)}, AllP n L → mu n L < bs n ^ L.length
  | [], _ => by simp [mu]
  | p :: L, h => by
    have h1 := mu_lt h.tail
    have h2 := fm_le h.head
    unfold mu
    rw [List.length_cons, Nat.pow_succ]
    have h3 : fm n p * bs n ^ L.length ≤ (n * (n * n)) * bs n ^ L.length := Nat.mul_le_mul_right _ h2
    have h4 : bs n ^ L.length * bs n = (n * (n * n)) * bs n ^ L.length + bs n ^ L.length := by
      unfold bs; rw [Nat.mul_comm, Nat.succ_mul]
    omega
theorem Step.mu_lt {n : Nat} {L M : List (List Nat)} (s : Step n L M) (h : AllP n L) : mu n M < mu n L := by
  induction s with
  | there p L M s ih => unfold mu; rw [s.length]; have := ih h.tail; omega
  | here a b Y i c =>
    have h1 := fm_aft h.head c.1 c.2.1 c.2.2.2
    have h2 := fm_le (h.tail.head.swp c.1 c.2.1)
    have h3 : fm n (swp b i) + 1 ≤ bs n := by unfold bs; omega
    simp only [mu, List.length_cons, Nat.pow_succ]
    have h4 : (fm n (aft a i) + 1) * (bs n ^ Y.length * bs n) ≤ fm n a * (bs n ^ Y.length * bs n) := Nat.mul_le_mul_right _ h1
    have h5 : (fm n (swp b i) + 1) * bs n ^ Y.length ≤ bs n * bs n ^ Y.length := Nat.mul_le_mul_right _ h3
    have h6 := Brd.mu_lt h.tail.tail
    rw [Nat.succ_mul] at h4 h5
    rw [Nat.mul_comm (bs n)] at h5
    omega

/-- many steps -/
inductive Rt {α : Type} (R : α → α → Prop) : α → α → Prop
  | refl (x : α) : Rt R x x
  | tail {x y z : α} (h : R x y) (t : Rt R y z) : Rt R x z
theorem Rt.trans {α : Type} {R : α → α → Prop} {x y z : α} (h : Rt R x y) (k : Rt R y z) : Rt R x z := by
  induction h with
  | refl => exact k
  | tail s t ih => exact .tail s (ih k)
theorem Rt.one {α : Type} {R : α → α → Prop} {x y : α} (h : R x y) : Rt R x y := .tail h (.refl _)
theorem Rt.keeps {α : Type} {R : α → α → Prop} {I : α → Prop} (hI : ∀ {x y}, R x y → I x → I y) {x y : α} (h : Rt R x y) (i : I x) : I y := by
  induction h with
  | refl => exact i
  | tail s t ih => exact ih (hI s i)
theorem newman {α : Type} {R : α → α → Prop} {I : α → Prop} {m : α → Nat} (hI : ∀ x y, R x y → I x → I y) (dec : ∀ x y, R x y → I x → m y < m x)
    (lc : ∀ x y z, I x → R x y → R x z → ∃ t, Rt R y t ∧ Rt R z t) (N : Nat) : ∀ (x y z : α), m x ≤ N → I x → Rt R x y → Rt R x z → ∃ t, Rt R y t ∧ Rt R z t := by
  induction N with
  | zero =>
    intro x y z hN ix h k
    cases h with
    | refl => exact ⟨z, k, .refl _⟩
    | tail s t => exact absurd (dec _ _ s ix) (by omega)
  | succ N ih =>
    intro x y z hN ix h k
    cases h with
    | refl => exact ⟨z, k, .refl _⟩
    | @tail _ y1 _ s t =>
      cases k with
      | refl => exact ⟨y, .refl _, .tail s t⟩
      | @tail _ z1 _ s2 t2 =>
        have d1 := dec _ _ s ix; have d2 := dec _ _ s2 ix
        have i1 := hI _ _ s ix; have i2 := hI _ _ s2 ix
        obtain ⟨u, hu1, hu2⟩ := lc _ _ _ ix s s2
        obtain ⟨v, hv1, hv2⟩ := ih y1 y u (by omega) i1 t hu1
        obtain ⟨q, hq1, hq2⟩ := ih z1 z v (by omega) i2 t2 (hu2.trans hv2)
        exact ⟨q, hv1.trans hq2, hq1⟩
theorem PermL.asw {n : Nat} {p : List Nat} (h : PermL n p) {i x : Nat} (hx : x < n) : at_ (Brd.swp p i) x = at_ p (sx i x) := at_swp (by rw [h.len]; exact hx)
theorem aft_aft_far {n : Nat} {p : List Nat} (h : PermL n p) {i j : Nat} (hf : i + 1 < j ∨ j + 1 < i) (hi : 1 ≤ i) (hi' : i < n) (hj : 1 ≤ j) (hj' : j < n) : aft (aft p i) j = aft (aft p j) i := by
  refine ((h.aft hi hi').aft hj hj').ext ((h.aft hj hj').aft hi hi') fun x hx => ?_
  rw [at_aft (by rw [(h.aft hi hi').len]; exact hx), at_aft (by rw [h.len]; exact hx), at_aft (by rw [(h.aft hj hj').len]; exact hx), at_aft (by rw [h.len]; exact hx), sx_comm hf hi hj]
theorem swp_swp_far {n : Nat} {p : List Nat} (h : PermL n p) {i j : Nat} (hf : i + 1 < j ∨ j + 1 < i) (hi : 1 ≤ i) (hi' : i < n) (hj : 1 ≤ j) (hj' : j < n) : swp (swp p i) j = swp (swp p j) i := by
  refine ((h.swp hi hi').swp hj hj').ext ((h.swp hj hj').swp hi hi') fun x hx => ?_
  rw [at_swp (by rw [(h.swp hi hi').len]; exact hx), at_swp (by rw [h.len]; exact sx_lt hj' hx), at_swp (by rw [(h.swp hj hj').len]; exact hx), at_swp (by rw [h.len]; exact sx_lt hi' hx), sx_comm hf hi hj]
theorem aft_swp {n : Nat} {p : List Nat} (h : PermL n p) {i j : Nat} (hi : 1 ≤ i) (hi' : i < n) (hj : 1 ≤ j) (hj' : j < n) : aft (swp p i) j = swp (aft p j) i := by
  refine ((h.swp hi hi').aft hj hj').ext ((h.aft hj hj').swp hi hi') fun x hx => ?_
  rw [at_aft (by rw [(h.swp hi hi').len]; exact hx), at_swp (by rw [h.len]; exact hx), at_swp (by rw [(h.aft hj hj').len]; exact hx), at_aft (by rw [h.len]; exact sx_lt hi' hx)]
theorem aft_braid {n : Nat} {p : List Nat} (h : PermL n p) {i : Nat} (hi : 1 ≤ i) (hi' : i + 1 < n) : aft (aft (aft p i) (i + 1)) i = aft (aft (aft p (i + 1)) i) (i + 1) := by
  have a1 := h.aft hi (show i < n by omega); have a2 := a1.aft (show 1 ≤ i + 1 by omega) hi'; have a3 := a2.aft hi (show i < n by omega)
  have b1 := h.aft (show 1 ≤ i + 1 by omega) hi'; have b2 := b1.aft hi (show i < n by omega); have b3 := b2.aft (show 1 ≤ i + 1 by omega) hi'
  refine a3.ext b3 fun x hx => ?_
  rw [at_aft (by rw [a2.len]; exact hx), at_aft (by rw [a1.len]; exact hx), at_aft (by rw [h.len]; exact hx), at_aft (by rw [b2.len]; exact hx), at_aft (by rw [b1.len]; exact hx), at_aft (by rw [h.len]; exact hx), sx_braid hi]
theorem swp_braid {n : Nat} {p : List Nat} (h : PermL n p) {i : Nat} (hi : 1 ≤ i) (hi' : i + 1 < n) : swp (swp (swp p i) (i + 1)) i = swp (swp (swp p (i + 1)) i) (i + 1) := by
  have a1 := h.swp hi (show i < n by omega); have a2 := a1.swp (show 1 ≤ i + 1 by omega) hi'; have a3 := a2.swp hi (show i < n by omega)
  have b1 := h.swp (show 1 ≤ i + 1 by omega) hi'; have b2 := b1.swp hi (show i < n by omega); have b3 := b2.swp (show 1 ≤ i + 1 by omega) hi'
  refine a3.ext b3 fun x hx => ?_
  have x1 := sx_lt (i := i) (show i < n by omega) hx; have x2 := sx_lt hi' x1
  have y1 := sx_lt hi' hx; have y2 := sx_lt (i := i) (show i < n by omega) y1
  rw [at_swp (by rw [a2.len]; exact hx), at_swp (by rw [a1.len]; exact x1), at_swp (by rw [h.len]; exact x2), at_swp (by rw [b2.len]; exact hx), at_swp (by rw [b1.len]; exact y1), at_swp (by rw [h.len]; exact y2), sx_braid hi]

theorem can_far {n : Nat} {a b : List Nat} (ha : PermL n a) (hb : PermL n b) {i j : Nat} (ci : Can n a b i) (cj : Can n a b j) (hf : i + 1 < j ∨ j + 1 < i) : Can n (aft a i) (swp b i) j := by
  obtain ⟨i1, i2, _, _⟩ := ci; obtain ⟨j1, j2, j3, j4⟩ := cj
  refine ⟨j1, j2, ?_, ?_⟩
  · rw [at_swp (by rw [hb.len]; omega), at_swp (by rw [hb.len]; omega), sx_far (by omega) (by omega), sx_far (by omega) (by omega)]; exact j3
  · rw [ha.iv_aft i1 i2 (by omega), ha.iv_aft i1 i2 (by omega), sx_far (by omega) (by omega), sx_far (by omega) (by omega)]; exact j4
theorem can_up1 {n : Nat} {a b : List Nat} (ha : PermL n a) (hb : PermL n b) {i : Nat} (ci : Can n a b i) (cj : Can n a b (i + 1)) : Can n (aft a i) (swp b i) (i + 1) := by
  obtain ⟨i1, i2, i3, i4⟩ := ci; obtain ⟨j1, j2, j3, j4⟩ := cj
  simp only [Nat.add_sub_cancel] at j3 j4
  refine ⟨j1, j2, ?_, ?_⟩ <;> simp only [Nat.add_sub_cancel]
  · rw [at_swp (by rw [hb.len]; omega), at_swp (by rw [hb.len]; omega), sx_far (by omega) (by omega), sx_hi]; omega
  · rw [ha.iv_aft i1 i2 (by omega), ha.iv_aft i1 i2 (by omega), sx_hi, sx_far (by omega) (by omega)]; omega
theorem can_up2 {n : Nat} {a b : List Nat} (ha : PermL n a) (hb : PermL n b) {i : Nat} (ci : Can n a b i) (cj : Can n a b (i + 1)) : Can n (aft (aft a i) (i + 1)) (swp (swp b i) (i + 1)) i := by
  obtain ⟨i1, i2, i3, i4⟩ := ci; obtain ⟨j1, j2, j3, j4⟩ := cj
  simp only [Nat.add_sub_cancel] at j3 j4
  have a1 := ha.aft i1 i2; have b1 := hb.swp i1 i2
  have s1 : sx (i + 1) i = i + 1 := by have := sx_lo (i := i + 1) (by omega); simpa using this
  refine ⟨i1, i2, ?_, ?_⟩
  · rw [b1.asw (by omega), b1.asw (by omega), s1, sx_far (i := i + 1) (by omega) (by omega), hb.asw (by omega), hb.asw (by omega), sx_far (by omega) (by omega), sx_lo i1]; omega
  · rw [a1.iv_aft j1 j2 (by omega), a1.iv_aft j1 j2 (by omega), s1, sx_far (i := i + 1) (by omega) (by omega), ha.iv_aft i1 i2 (by omega), ha.iv_aft i1 i2 (by omega), sx_lo i1, sx_far (by omega) (by omega)]; omega
theorem can_dn1 {n : Nat} {a b : List Nat} (ha : PermL n a) (hb : PermL n b) {i : Nat} (ci : Can n a b i) (cj : Can n a b (i + 1)) : Can n (aft a (i + 1)) (swp b (i + 1)) i := by
  obtain ⟨i1, i2, i3, i4⟩ := ci; obtain ⟨j1, j2, j3, j4⟩ := cj
  simp only [Nat.add_sub_cancel] at j3 j4
  have s1 : sx (i + 1) i = i + 1 := by have := sx_lo (i := i + 1) (by omega); simpa using this
  refine ⟨i1, i2, ?_, ?_⟩
  · rw [at_swp (by rw [hb.len]; omega), at_swp (by rw [hb.len]; omega), s1, sx_far (by omega) (by omega)]; omega
  · rw [ha.iv_aft j1 j2 (by omega), ha.iv_aft j1 j2 (by omega), s1, sx_far (by omega) (by omega)]; omega
theorem can_dn2 {n : Nat} {a b : List Nat} (ha : PermL n a) (hb : PermL n b) {i : Nat} (ci : Can n a b i) (cj : Can n a b (i + 1)) : Can n (aft (aft a (i + 1)) i) (swp (swp b (i + 1)) i) (i + 1) := by
  obtain ⟨i1, i2, i3, i4⟩ := ci; obtain ⟨j1, j2, j3, j4⟩ := cj
  simp only [Nat.add_sub_cancel] at j3 j4
  have a1 := ha.aft j1 j2; have b1 := hb.swp j1 j2
  have s2 : sx (i + 1) (i + 1) = i := by rw [sx_hi]; rfl
  refine ⟨j1, j2, ?_, ?_⟩ <;> simp only [Nat.add_sub_cancel]
  · rw [b1.asw (by omega), b1.asw (by omega), sx_far (i := i) (by omega) (by omega), sx_hi, hb.asw (by omega), hb.asw (by omega), s2, sx_far (by omega) (by omega)]; omega
  · rw [a1.iv_aft i1 i2 (by omega), a1.iv_aft i1 i2 (by omega), sx_hi (i := i), sx_far (i := i) (by omega) (by omega), ha.iv_aft j1 j2 (by omega), ha.iv_aft j1 j2 (by omega), s2, sx_far (by omega) (by omega)]; omega

theorem conf_up {n : Nat} {a b : List Nat} (Y : List (List Nat)) (ha : PermL n a) (hb : PermL n b) {i : Nat} (ci : Can n a b i) (cj : Can n a b (i + 1)) :
    ∃ t, Rt (Step n) (aft a i :: swp b i :: Y) t ∧ Rt (Step n) (aft a (i + 1) :: swp b (i + 1) :: Y) t := by
  refine ⟨aft (aft (aft a i) (i + 1)) i :: swp (swp (swp b i) (i + 1)) i :: Y, ?_, ?_⟩
  · exact .tail (.here _ _ _ _ (can_up1 ha hb ci cj)) (.one (.here _ _ _ _ (can_up2 ha hb ci cj)))
  · rw [aft_braid ha ci.1 cj.2.1, swp_braid hb ci.1 cj.2.1]
    exact .tail (.here _ _ _ _ (can_dn1 ha hb ci cj)) (.one (.here _ _ _ _ (can_dn2 ha hb ci cj)))
theorem conf_same {n : Nat} {a b : List Nat} (Y : List (List Nat)) (ha : PermL n a) (hb : PermL n b) {i j : Nat} (ci : Can n a b i) (cj : Can n a b j) :
    ∃ t, Rt (Step n) (aft a i :: swp b i :: Y) t ∧ Rt (Step n) (aft a j :: swp b j :: Y) t := by
  by_cases e : i = j
  · subst e; exact ⟨_, .refl _, .refl _⟩
  by_cases e1 : j = i + 1
  · subst e1; exact conf_up Y ha hb ci cj
  by_cases e2 : i = j + 1
  · subst e2; obtain ⟨t, h1, h2⟩ := conf_up Y ha hb cj ci; exact ⟨t, h2, h1⟩
  have hf : i + 1 < j ∨ j + 1 < i := by omega
  refine ⟨aft (aft a i) j :: swp (swp b i) j :: Y, .one (.here _ _ _ _ (can_far ha hb ci cj hf)), ?_⟩
  rw [aft_aft_far ha hf ci.1 ci.2.1 cj.1 cj.2.1, swp_swp_far hb hf ci.1 ci.2.1 cj.1 cj.2.1]
  exact .one (.here _ _ _ _ (can_far ha hb cj ci (by omega)))
theorem conf_next {n : Nat} {a b c : List Nat} (Y : List (List Nat)) (ha : PermL n a) (hb : PermL n b) (hc : PermL n c) {i j : Nat} (ci : Can n a b i) (cj : Can n b c j) :
    ∃ t, Rt (Step n) (aft a i :: swp b i :: c :: Y) t ∧ Rt (Step n) (a :: aft b j :: swp c j :: Y) t := by
  obtain ⟨i1, i2, i3, i4⟩ := ci; obtain ⟨j1, j2, j3, j4⟩ := cj
  refine ⟨aft a i :: aft (swp b i) j :: swp c j :: Y, .one (.there _ _ _ (.here _ _ _ _ ⟨j1, j2, j3, ?_⟩)), ?_⟩
  · rw [hb.iv_swp i1 i2 (by omega), hb.iv_swp i1 i2 (by omega)]
    refine sx_lt_lt j4 fun ⟨h1, h2⟩ => ?_
    have e1 := hb.at_iv (show j - 1 < n by omega); have e2 := hb.at_iv j2
    rw [show iv b (j - 1) = i - 1 by omega] at e1; rw [h2] at e2; omega
  · rw [aft_swp hb i1 i2 j1 j2]
    refine .one (.here _ _ _ _ ⟨i1, i2, ?_, i4⟩)
    rw [at_aft (by rw [hb.len]; omega), at_aft (by rw [hb.len]; omega)]
    refine sx_lt_lt i3 fun ⟨h1, h2⟩ => ?_
    have e1 := hb.iv_at i2; have e2 := hb.iv_at (show i - 1 < n by omega)
    rw [show at_ b i = j - 1 by omega] at e1; rw [h2] at e2; omega
theorem Rt.there {n : Nat} {L M : List (List Nat)} (p : List Nat) (h : Rt (Step n) L M) : Rt (Step n) (p :: L) (p :: M) := by
  induction h with
  | refl => exact .refl _
  | tail s t ih => exact .tail (.there _ _ _ s) ih
theorem local_conf {n : Nat} : ∀ (L M N : List (List Nat)), AllP n L → Step n L M → Step n L N → ∃ t, Rt (Step n) M t ∧ Rt (Step n) N t := by
  intro L
  induction L with
  | nil => intro M N _ h; cases h
  | cons p L ih =>
    intro M N hL h k
    cases h with
    | here _ b Y i ci =>
      cases k with
      | here _ _ _ j cj => exact conf_same Y hL.head hL.tail.head ci cj
      | there _ _ M2 s =>
        cases s with
        | here _ c Y2 j cj => exact conf_next Y2 hL.head hL.tail.head hL.tail.tail.head ci cj
        | there _ _ Y3 s => exact ⟨_, .one (.there _ _ _ (.there _ _ _ s)), .one (.here _ _ _ _ ci)⟩
    | there _ _ M1 s1 =>
      cases k with
      | here _ b Y j cj =>
        cases s1 with
        | here _ c Y2 i ci => obtain ⟨t, h1, h2⟩ := conf_next Y2 hL.head hL.tail.head hL.tail.tail.head cj ci; exact ⟨t, h2, h1⟩
        | there _ _ Y3 s => exact ⟨_, .one (.here _ _ _ _ cj), .one (.there _ _ _ (.there _ _ _ s))⟩
      | there _ _ M2 s2 =>
        obtain ⟨t, h1, h2⟩ := ih _ _ hL.tail s1 s2
        exact ⟨p :: t, h1.there p, h2.there p⟩
theorem conf {n : Nat} {L M N : List (List Nat)} (hL : AllP n L) (h : Rt (Step n) L M) (k : Rt (Step n) L N) : ∃ t, Rt (Step n) M t ∧ Rt (Step n) N t :=
  newman (I := AllP n) (m := mu n) (fun _ _ s i => s.allP i) (fun _ _ s i => s.mu_lt i) (fun x y z i s t => local_conf x y z i s t) (mu n L) L M N (Nat.le_refl _) hL h k
theorem rt_allP {n : Nat} {L M : List (List Nat)} (hL : AllP n L) (h : Rt (Step n) L M) : AllP n M := h.keeps (fun s i => s.allP i) hL
theorem rt_length {n : Nat} {L M : List (List Nat)} (h : Rt (Step n) L M) : M.length = L.length := by
  induction h with
  | refl => rfl
  | tail s t ih => rw [ih, s.length]

/-- nothing can slide -/
def Still (n : Nat) (L : List (List Nat)) : Prop := ∀ M, ¬ Step n L M
theorem Still.eq {n : Nat} {L M : List (List Nat)} (h : Still n L) (k : Rt (Step n) L M) : M = L := by
  cases k with
  | refl => rfl
  | tail s _ => exact absurd s (h _)
/-- M is the normal form of L -/
def Nf (n : Nat) (L M : List (List Nat)) : Prop := Rt (Step n) L M ∧ Still n M
theorem Nf.uniq {n : Nat} {L M N : List (List Nat)} (hL : AllP n L) (h : Nf n L M) (k : Nf n L N) : M = N := by
  obtain ⟨t, h1, h2⟩ := conf hL h.1 k.1
  rw [← h.2.eq h1, k.2.eq h2]
theorem nf_ex {n : Nat} : ∀ (N : Nat) (L : List (List Nat)), mu n L ≤ N → AllP n L → ∃ M, Nf n L M := by
  intro N
  induction N with
  | zero =>
    intro L hN hL
    exact ⟨L, .refl _, fun M s => absurd (s.mu_lt hL) (by omega)⟩
  | succ N ih =>
    intro L hN hL
    by_cases h : ∃ M, Step n L M
    · obtain ⟨M, s⟩ := h
      have := s.mu_lt hL
      obtain ⟨T, h1, h2⟩ := ih M (by omega) (s.allP hL)
      exact ⟨T, .tail s h1, h2⟩
    · exact ⟨L, .refl _, fun M s => h ⟨M, s⟩⟩
/-- two lists lead to one -/
def Jn (n : Nat) (L M : List (List Nat)) : Prop := ∃ t, Rt (Step n) L t ∧ Rt (Step n) M t
theorem Jn.nf {n : Nat} {L M T U : List (List Nat)} (hL : AllP n L) (hM : AllP n M) (h : Jn n L M) (k : Nf n L T) (k2 : Nf n M U) : T = U := by
  obtain ⟨t, h1, h2⟩ := h
  obtain ⟨V, v1, v2⟩ := nf_ex (n := n) _ t (Nat.le_refl _) (rt_allP hL h1)
  rw [k.uniq hL ⟨h1.trans v1, v2⟩, k2.uniq hM ⟨h2.trans v1, v2⟩]
theorem Rt.app {n : Nat} {L M : List (List Nat)} (h : Rt (Step n) L M) (X : List (List Nat)) : Rt (Step n) (X ++ L) (X ++ M) := by
  induction X with
  | nil => exact h
  | cons p X ih => exact ih.there p
theorem Step.appR {n : Nat} {L M : List (List Nat)} (h : Step n L M) (X : List (List Nat)) : Step n (L ++ X) (M ++ X) := by
  induction h with
  | here a b Y i c => exact .here _ _ _ _ c
  | there p L M s ih => exact .there _ _ _ ih
theorem Rt.appR {n : Nat} {L M : List (List Nat)} (h : Rt (Step n) L M) (X : List (List Nat)) : Rt (Step n) (L ++ X) (M ++ X) := by
  induction h with
  | refl => exact .refl _
  | tail s t ih => exact .tail (s.appR X) ih
/-- no pair crosses twice -/
def LA (n : Nat) (a y : List Nat) : Prop := ∀ u v, u < v → v < n → at_ a v < at_ a u → at_ y (at_ a v) < at_ y (at_ a u)
theorem mono_id {n : Nat} {y : List Nat} (h : PermL n y) (hm : ∀ i, 1 ≤ i → i < n → at_ y (i - 1) < at_ y i) : ∀ x, x < n → at_ y x = x := by
  have lo : ∀ x, x < n → x ≤ at_ y x := by
    intro x
    induction x with
    | zero => intro _; omega
    | succ x ih => intro hx; have := ih (by omega); have := hm (x + 1) (by omega) hx; simp only [Nat.add_sub_cancel] at this; omega
  have hi : ∀ k x, x + k + 1 = n → at_ y x ≤ x := by
    intro k
    induction k with
    | zero => intro x hx; have := h.at_lt (show x < n by omega); omega
    | succ k ih => intro x hx; have := ih (x + 1) (by omega); have := hm (x + 1) (by omega) (by omega); simp only [Nat.add_sub_cancel] at this; omega
  intro x hx
  have := lo x hx; have := hi (n - 1 - x) x (by omega); omega
theorem slide_all {n : Nat} (Y : List (List Nat)) {b c z : List Nat} : ∀ (N : Nat) (a b y : List Nat), fm n a ≤ N → PermL n a → PermL n b → PermL n y → PermL n c → PermL n z →
    (∀ x, x < n → at_ b x = at_ c (at_ y x)) → (∀ x, x < n → at_ z x = at_ y (at_ a x)) → LA n a y → LA n y c → Rt (Step n) (a :: b :: Y) (z :: c :: Y) := by
  intro N
  induction N with
  | zero =>
    intro a b y hN ha hb hy hc hz eb ez h1 h2
    by_cases hd : ∀ i, 1 ≤ i → i < n → at_ y (i - 1) < at_ y i
    · have hid := mono_id hy hd
      rw [hz.ext ha (fun x hx => by rw [ez x hx, hid _ (ha.at_lt hx)]), hc.ext hb (fun x hx => by rw [eb x hx, hid x hx])]
      exact .refl _
    · exfalso
      refine hd fun i i1 i2 => Classical.byContradiction fun hn => ?_
      have hne : at_ y (i - 1) ≠ at_ y i := fun e => by have := hy.inj (show i - 1 < n by omega) i2 e; omega
      have hdn : at_ y i < at_ y (i - 1) := by omega
      have hv : iv a (i - 1) < iv a i := Classical.byContradiction fun hv => by
        have k1 := ha.iv_lt (show i - 1 < n by omega); have k2 := ha.iv_lt i2
        have k3 := ha.at_iv (show i - 1 < n by omega); have k4 := ha.at_iv i2
        have hne2 : iv a (i - 1) ≠ iv a i := fun e => by rw [e] at k3; omega
        have := h1 (iv a i) (iv a (i - 1)) (by omega) k1 (by omega)
        rw [k3, k4] at this; omega
      have := fm_aft ha i1 i2 hv
      omega
  | succ N ih =>
    intro a b y hN ha hb hy hc hz eb ez h1 h2
    by_cases hd : ∀ i, 1 ≤ i → i < n → at_ y (i - 1) < at_ y i
    · have hid := mono_id hy hd
      rw [hz.ext ha (fun x hx => by rw [ez x hx, hid _ (ha.at_lt hx)]), hc.ext hb (fun x hx => by rw [eb x hx, hid x hx])]
      exact .refl _
    · obtain ⟨i, hi⟩ := Classical.not_forall.1 hd
      obtain ⟨i1, hi⟩ := Classical.not_imp.1 hi
      obtain ⟨i2, hn⟩ := Classical.not_imp.1 hi
      have hne : at_ y (i - 1) ≠ at_ y i := fun e => by have := hy.inj (show i - 1 < n by omega) i2 e; omega
      have hdn : at_ y i < at_ y (i - 1) := by omega
      have k1 := ha.iv_lt (show i - 1 < n by omega); have k2 := ha.iv_lt i2
      have k3 := ha.at_iv (show i - 1 < n by omega); have k4 := ha.at_iv i2
      have hv : iv a (i - 1) < iv a i := Classical.byContradiction fun hv => by
        have hne2 : iv a (i - 1) ≠ iv a i := fun e => by rw [e] at k3; omega
        have := h1 (iv a i) (iv a (i - 1)) (by omega) k1 (by omega)
        rw [k3, k4] at this; omega
      have hbd : at_ b i < at_ b (i - 1) := by
        rw [eb i i2, eb (i - 1) (by omega)]
        exact h2 (i - 1) i (by omega) i2 hdn
      have hlt := fm_aft ha i1 i2 hv
      refine .tail (.here _ _ _ i ⟨i1, i2, hbd, hv⟩) ?_
      refine ih (aft a i) (swp b i) (swp y i) (by omega) (ha.aft i1 i2) (hb.swp i1 i2) (hy.swp i1 i2) hc hz ?_ ?_ ?_ ?_
      · intro x hx
        rw [hb.asw hx, hy.asw hx, eb _ (sx_lt i2 hx)]
      · intro x hx
        rw [at_aft (by rw [ha.len]; exact hx), hy.asw (sx_lt i2 (ha.at_lt hx)), sx_sx i1, ez x hx]
      · intro u v huv hv' hlt'
        have hu' : u < n := by omega
        rw [at_aft (x := u) (by rw [ha.len]; exact hu'), at_aft (x := v) (by rw [ha.len]; exact hv')] at hlt' ⊢
        rw [hy.asw (sx_lt i2 (ha.at_lt hv')), hy.asw (sx_lt i2 (ha.at_lt hu')), sx_sx i1, sx_sx i1]
        by_cases hlt2 : at_ a v < at_ a u
        · exact h1 u v huv hv' hlt2
        · have hne3 : at_ a u ≠ at_ a v := fun e => by have := ha.inj hu' hv' e; omega
          have : at_ a u + 1 = i ∧ at_ a v = i := Classical.byContradiction fun hn => by
            have := sx_lt_lt (i := i) (show at_ a u < at_ a v by omega) hn; omega
          rw [this.2, show at_ a u = i - 1 by omega]; exact hdn
      · intro u v huv hv' hlt'
        have hu' : u < n := by omega
        rw [hy.asw hu', hy.asw hv'] at hlt' ⊢
        by_cases hlt2 : sx i u < sx i v
        · exact h2 _ _ hlt2 (sx_lt i2 hv') hlt'
        · have : u + 1 = i ∧ v = i := Classical.byContradiction fun hn => by
            have := sx_lt_lt (i := i) huv hn; omega
          rw [this.2, show u = i - 1 by omega, sx_hi, sx_lo i1] at hlt'; omega

def idl (n : Nat) : List Nat := lst n fun x => x
def delta (n : Nat) : List Nat := lst n fun x => n - 1 - x
def tur (n : Nat) (p : List Nat) : List Nat := lst n fun x => n - 1 - at_ p (n - 1 - x)
theorem perm_idl (n : Nat) : PermL n (idl n) := permL_lst _ (fun x => x) (fun _ h => h) (fun _ h => h) (fun _ _ => rfl) (fun _ _ => rfl)
theorem perm_delta (n : Nat) : PermL n (delta n) := permL_lst _ (fun x => n - 1 - x) (fun _ h => by omega) (fun _ h => by omega) (fun _ _ => by omega) (fun _ _ => by omega)
theorem PermL.tur {n : Nat} {p : List Nat} (h : PermL n p) : PermL n (tur n p) := by
  refine permL_lst _ (fun v => n - 1 - iv p (n - 1 - v)) (fun x hx => by omega) (fun x hx => by omega) ?_ ?_
  · intro x hx
    show n - 1 - iv p (n - 1 - (n - 1 - at_ p (n - 1 - x))) = x
    have h1 := h.at_lt (show n - 1 - x < n by omega)
    rw [show n - 1 - (n - 1 - at_ p (n - 1 - x)) = at_ p (n - 1 - x) by omega, h.iv_at (by omega)]; omega
  · intro x hx
    show n - 1 - at_ p (n - 1 - (n - 1 - iv p (n - 1 - x))) = x
    have h1 := h.iv_lt (show n - 1 - x < n by omega)
    rw [show n - 1 - (n - 1 - iv p (n - 1 - x)) = iv p (n - 1 - x) by omega, h.at_iv (by omega)]; omega
theorem at_idl {n x : Nat} (h : x < n) : at_ (idl n) x = x := at_lst h
theorem at_delta {n x : Nat} (h : x < n) : at_ (delta n) x = n - 1 - x := at_lst h
theorem at_tur {n x : Nat} {p : List Nat} (h : x < n) : at_ (tur n p) x = n - 1 - at_ p (n - 1 - x) := at_lst h
theorem tur_tur {n : Nat} {p : List Nat} (h : PermL n p) : tur n (tur n p) = p := by
  refine h.tur.tur.ext h fun x hx => ?_
  rw [at_tur hx, at_tur (by omega)]
  have := h.at_lt hx
  rw [show n - 1 - (n - 1 - x) = x by omega]; omega
def sg (n i : Nat) : List Nat := aft (idl n) i
def dl (n i : Nat) : List Nat := aft (delta n) i
theorem perm_sg {n i : Nat} (h1 : 1 ≤ i) (h2 : i < n) : PermL n (sg n i) := (perm_idl n).aft h1 h2
theorem perm_dl {n i : Nat} (h1 : 1 ≤ i) (h2 : i < n) : PermL n (dl n i) := (perm_delta n).aft h1 h2
theorem at_sg {n i x : Nat} (h : x < n) : at_ (sg n i) x = sx i x := by
  unfold sg; rw [at_aft (by rw [(perm_idl n).len]; exact h), at_idl h]
theorem at_dl {n i x : Nat} (h : x < n) : at_ (dl n i) x = sx i (n - 1 - x) := by
  unfold dl; rw [at_aft (by rw [(perm_delta n).len]; exact h), at_delta h]
theorem rev_sx {n i x : Nat} (h1 : 1 ≤ i) (h2 : i < n) (hx : x < n) : n - 1 - sx (n - i) x = sx i (n - 1 - x) := by
  unfold sx; repeat' split
  all_goals omega
theorem tur_sg {n i : Nat} (h1 : 1 ≤ i) (h2 : i < n) : tur n (sg n i) = sg n (n - i) := by
  refine (perm_sg h1 h2).tur.ext (perm_sg (by omega) (by omega)) fun x hx => ?_
  rw [at_tur hx, at_sg (by omega), at_sg hx, ← rev_sx h1 h2 hx]
  have := sx_lt (i := n - i) (n := n) (by omega) hx
  omega
theorem tur_dl {n i : Nat} (h1 : 1 ≤ i) (h2 : i < n) : tur n (dl n i) = dl n (n - i) := by
  refine (perm_dl h1 h2).tur.ext (perm_dl (by omega) (by omega)) fun x hx => ?_
  rw [at_tur hx, at_dl (by omega), at_dl hx, show n - 1 - (n - 1 - x) = x by omega]
  have := rev_sx (n := n) (i := i) (x := n - 1 - x) h1 h2 (by omega)
  rw [show n - 1 - (n - 1 - x) = x by omega] at this
  have h3 := sx_lt (i := n - i) (n := n) (x := n - 1 - x) (by omega) (by omega)
  omega
theorem sx_drop {i u v : Nat} (huv : u < v) (h : sx i v < sx i u) : u + 1 = i ∧ v = i :=
  Classical.byContradiction fun hn => by have := sx_lt_lt (i := i) huv hn; omega
theorem ne_of_drop {n : Nat} {b : List Nat} (hb : PermL n b) {u v : Nat} (huv : u < v) (hv : v < n) : at_ b u ≠ at_ b v := fun e => by have := hb.inj (by omega) hv e; omega

theorem delta_pair {n : Nat} (Y : List (List Nat)) {a b : List Nat} (ha : PermL n a) (hb : PermL n b) (h : ∀ x, x < n → at_ b (at_ a x) = n - 1 - x) : Rt (Step n) (a :: b :: Y) (delta n :: idl n :: Y) := by
  refine slide_all Y (b := b) _ a b b (Nat.le_refl _) ha hb hb (perm_idl n) (perm_delta n) ?_ ?_ ?_ ?_
  · intro x hx; rw [at_idl (hb.at_lt hx)]
  · intro x hx; rw [at_delta hx, h x hx]
  · intro u v huv hv _; rw [h u (by omega), h v hv]; omega
  · intro u v huv hv hlt; rw [at_idl (hb.at_lt hv), at_idl (hb.at_lt (by omega))]; exact hlt
theorem sg_dl {n i : Nat} (Y : List (List Nat)) (h1 : 1 ≤ i) (h2 : i < n) : Rt (Step n) (sg n (n - i) :: dl n i :: Y) (delta n :: idl n :: Y) :=
  delta_pair Y (perm_sg (by omega) (by omega)) (perm_dl h1 h2) fun x hx => by
    rw [at_sg hx, at_dl (sx_lt (by omega) hx), rev_sx h1 h2 hx, sx_sx h1]
theorem dl_sg {n i : Nat} (Y : List (List Nat)) (h1 : 1 ≤ i) (h2 : i < n) : Rt (Step n) (dl n i :: sg n i :: Y) (delta n :: idl n :: Y) :=
  delta_pair Y (perm_dl h1 h2) (perm_sg h1 h2) fun x hx => by
    rw [at_dl hx, at_sg (sx_lt h2 (by omega)), sx_sx h1]
theorem to_delta {n : Nat} (Y : List (List Nat)) {b : List Nat} (hb : PermL n b) : Rt (Step n) (b :: delta n :: Y) (delta n :: tur n b :: Y) := by
  have hy : PermL n (lst n fun x => n - 1 - iv b x) := permL_lst _ (fun v => at_ b (n - 1 - v)) (fun x hx => by omega) (fun x hx => hb.at_lt (by omega))
    (fun x hx => by show at_ b (n - 1 - (n - 1 - iv b x)) = x; have := hb.iv_lt hx; rw [show n - 1 - (n - 1 - iv b x) = iv b x by omega, hb.at_iv hx])
    (fun x hx => by show n - 1 - iv b (at_ b (n - 1 - x)) = x; rw [hb.iv_at (by omega)]; omega)
  have hc : ∀ x, x < n → at_ (tur n b) (at_ (lst n fun x => n - 1 - iv b x) x) = n - 1 - x := by
    intro x hx
    have := hb.iv_lt hx
    rw [at_lst hx, at_tur (by omega), show n - 1 - (n - 1 - iv b x) = iv b x by omega, hb.at_iv hx]
  have hz : ∀ x, x < n → at_ (lst n fun x => n - 1 - iv b x) (at_ b x) = n - 1 - x := by
    intro x hx; rw [at_lst (hb.at_lt hx), hb.iv_at hx]
  refine slide_all Y (b := b) _ b (delta n) _ (Nat.le_refl _) hb (perm_delta n) hy hb.tur (perm_delta n) ?_ ?_ ?_ ?_
  · intro x hx; rw [hc x hx, at_delta hx]
  · intro x hx; rw [hz x hx, at_delta hx]
  · intro u v huv hv _; rw [hz u (by omega), hz v hv]; omega
  · intro u v huv hv _; rw [hc u (by omega), hc v hv]; omega
theorem id_sink {n : Nat} (Y : List (List Nat)) {b : List Nat} (hb : PermL n b) : Rt (Step n) (idl n :: b :: Y) (b :: idl n :: Y) := by
  refine slide_all Y (b := b) _ (idl n) b b (Nat.le_refl _) (perm_idl n) hb hb (perm_idl n) hb ?_ ?_ ?_ ?_
  · intro x hx; rw [at_idl (hb.at_lt hx)]
  · intro x hx; rw [at_idl hx]
  · intro u v huv hv hlt; rw [at_idl hv, at_idl (by omega)] at hlt; omega
  · intro u v huv hv hlt; rw [at_idl (hb.at_lt hv), at_idl (hb.at_lt (by omega))]; exact hlt
theorem sg_sg {n i j : Nat} (Y : List (List Nat)) (h1 : 1 ≤ i) (h2 : i < n) (j1 : 1 ≤ j) (j2 : j < n) (hf : i + 1 < j ∨ j + 1 < i) : Rt (Step n) (sg n i :: sg n j :: Y) (lst n (fun x => sx j (sx i x)) :: idl n :: Y) := by
  have hz : PermL n (lst n fun x => sx j (sx i x)) := permL_lst _ (fun x => sx i (sx j x)) (fun x hx => sx_lt j2 (sx_lt h2 hx)) (fun x hx => sx_lt h2 (sx_lt j2 hx)) (fun x hx => by show sx i (sx j (sx j (sx i x))) = x; rw [sx_sx j1, sx_sx h1]) (fun x hx => by show sx j (sx i (sx i (sx j x))) = x; rw [sx_sx h1, sx_sx j1])
  have hi := perm_sg h1 h2; have hj := perm_sg j1 j2
  refine slide_all Y (b := sg n j) _ (sg n i) (sg n j) (sg n j) (Nat.le_refl _) hi hj hj (perm_idl n) hz ?_ ?_ ?_ ?_
  · intro x hx; rw [at_idl (hj.at_lt hx)]
  · intro x hx; rw [at_lst hx, at_sg hx, at_sg (sx_lt h2 hx)]
  · intro u v huv hv hlt
    rw [at_sg hv, at_sg (by omega)] at hlt
    obtain ⟨e1, e2⟩ := sx_drop huv hlt
    rw [at_sg hv, at_sg (show u < n by omega), at_sg (sx_lt h2 hv), at_sg (sx_lt h2 (by omega)), e2, show u = i - 1 by omega, sx_hi, sx_lo h1, sx_far (by omega) (by omega), sx_far (by omega) (by omega)]; omega
  · intro u v huv hv hlt; rw [at_idl (hj.at_lt hv), at_idl (hj.at_lt (by omega))]; exact hlt
theorem sg_dl_far {n i j : Nat} (Y : List (List Nat)) (h1 : 1 ≤ i) (h2 : i < n) (j1 : 1 ≤ j) (j2 : j < n) (hf : i + 1 < j ∨ j + 1 < i) : Rt (Step n) (sg n (n - j) :: dl n i :: Y) (dl n i :: sg n j :: Y) := by
  have hd := perm_dl h1 h2
  have hs := perm_sg (n := n) (i := n - j) (by omega) (by omega)
  have hy := hd.swp (i := n - j) (by omega) (by omega)
  have ay : ∀ x, x < n → at_ (swp (dl n i) (n - j)) x = sx i (sx j (n - 1 - x)) := by
    intro x hx
    rw [hd.asw hx, at_dl (sx_lt (by omega) hx), rev_sx j1 j2 hx]
  refine slide_all Y (b := dl n i) _ (sg n (n - j)) (dl n i) (swp (dl n i) (n - j)) (Nat.le_refl _) hs hd hy (perm_sg j1 j2) hd ?_ ?_ ?_ ?_
  · intro x hx; rw [ay x hx, at_dl hx, at_sg (sx_lt h2 (sx_lt j2 (by omega))), sx_comm (by omega) h1 j1, sx_sx j1]
  · intro x hx; rw [at_sg hx, hd.asw (sx_lt (by omega) hx), sx_sx (by omega)]
  · intro u v huv hv hlt
    rw [at_sg hv, at_sg (by omega)] at hlt ⊢
    obtain ⟨e1, e2⟩ := sx_drop huv hlt
    rw [hd.asw (sx_lt (by omega) hv), hd.asw (sx_lt (by omega) (by omega)), sx_sx (by omega), sx_sx (by omega), at_dl hv, at_dl (by omega)]
    refine sx_lt_lt (by omega) ?_
    omega
  · intro u v huv hv hlt
    rw [ay u (by omega), ay v hv] at hlt ⊢
    rw [at_sg (sx_lt h2 (sx_lt j2 (by omega))), at_sg (sx_lt h2 (sx_lt j2 (by omega))), sx_comm (x := n - 1 - v) (by omega) h1 j1, sx_comm (x := n - 1 - u) (by omega) h1 j1, sx_sx j1, sx_sx j1]
    refine sx_lt_lt (by omega) ?_
    intro ⟨e1, e2⟩
    rw [show n - 1 - v = i - 1 by omega, e2, sx_far (i := j) (by omega) (by omega), sx_far (i := j) (by omega) (by omega), sx_lo h1, sx_hi] at hlt
    omega
theorem dl_dl {n i j : Nat} (Y : List (List Nat)) (h1 : 1 ≤ i) (h2 : i < n) (j1 : 1 ≤ j) (j2 : j < n) (hf : i + 1 < j ∨ j + 1 < i) : Rt (Step n) (dl n (n - i) :: dl n j :: Y) (delta n :: lst n (fun x => sx j (sx i (n - 1 - x))) :: Y) := by
  have hc : PermL n (lst n (fun x => sx j (sx i (n - 1 - x)))) := permL_lst _ (fun x => n - 1 - sx i (sx j x)) (fun x hx => sx_lt j2 (sx_lt h2 (by omega))) (fun x hx => by omega)
    (fun x hx => by show n - 1 - sx i (sx j (sx j (sx i (n - 1 - x)))) = x; rw [sx_sx j1, sx_sx h1]; omega)
    (fun x hx => by show sx j (sx i (n - 1 - (n - 1 - sx i (sx j x)))) = x
                    have := sx_lt h2 (sx_lt j2 hx)
                    rw [show n - 1 - (n - 1 - sx i (sx j x)) = sx i (sx j x) by omega, sx_sx h1, sx_sx j1])
  have hs := perm_sg (n := n) (i := n - i) (by omega) (by omega)
  have ha := perm_dl (n := n) (i := n - i) (by omega) (by omega)
  have e1 : ∀ x, x < n → at_ (sg n (n - i)) (at_ (dl n (n - i)) x) = n - 1 - x := by
    intro x hx
    rw [at_dl hx, at_sg (sx_lt (by omega) (by omega)), sx_sx (by omega)]
  have e2 : ∀ x, x < n → at_ (lst n (fun x => sx j (sx i (n - 1 - x)))) (at_ (sg n (n - i)) x) = sx j (n - 1 - x) := by
    intro x hx
    rw [at_sg hx, at_lst (sx_lt (by omega) hx), rev_sx h1 h2 hx, sx_sx h1]
  refine slide_all Y (b := dl n j) _ (dl n (n - i)) (dl n j) (sg n (n - i)) (Nat.le_refl _) ha (perm_dl j1 j2) hs hc (perm_delta n) ?_ ?_ ?_ ?_
  · intro x hx; rw [e2 x hx, at_dl hx]
  · intro x hx; rw [e1 x hx, at_delta hx]
  · intro u v huv hv _; rw [e1 u (by omega), e1 v hv]; omega
  · intro u v huv hv hlt
    rw [e2 u (by omega), e2 v hv]
    rw [at_sg hv, at_sg (by omega)] at hlt
    obtain ⟨q1, q2⟩ := sx_drop huv hlt
    refine sx_lt_lt (by omega) ?_
    omega
/-- what is left of a list that does not slide: Delta in front and identities are dropped -/
def post (n : Nat) : Int → List (List Nat) → List (List Nat) → Int × List (List Nat)
  | pw, out, [] => (pw, out)
  | pw, out, p :: L => if out = [] ∧ 1 < n ∧ p = delta n then post n (pw + 1) out L else if p = idl n then post n pw out L else post n pw (out ++ [p]) L
theorem idl_ne {n : Nat} (h : 1 < n) : idl n ≠ delta n := by
  intro e
  have : at_ (idl n) 0 = at_ (delta n) 0 := by rw [e]
  rw [at_idl (by omega), at_delta (by omega)] at this; omega
theorem post_id {n : Nat} (h : 1 < n) : ∀ (L : List (List Nat)) (pw : Int) (out : List (List Nat)), post n pw out (L ++ [idl n]) = post n pw out L := by
  intro L
  induction L with
  | nil =>
    intro pw out
    show post n pw out [idl n] = _
    unfold post
    rw [if_neg (fun c => idl_ne h c.2.2), if_pos rfl]; rfl
  | cons p L ih =>
    intro pw out
    rw [List.cons_append]
    unfold post
    split
    · exact ih _ _
    · split
      · exact ih _ _
      · exact ih _ _
theorem post_delta {n : Nat} (h : 1 < n) (pw : Int) (L : List (List Nat)) : post n pw [] (delta n :: L) = post n (pw + 1) [] L := by
  show (if _ then _ else _) = _
  rw [if_pos ⟨rfl, h, rfl⟩]
theorem still_delta {n : Nat} {L : List (List Nat)} (h : Still n L) : Still n (delta n :: L) := by
  intro M s
  cases s with
  | here _ b Y i c =>
    obtain ⟨i1, i2, _, i4⟩ := c
    rw [(perm_delta n).iv_eq (x := n - i) (v := i - 1) (by omega) (by rw [at_delta (by omega)]; omega), (perm_delta n).iv_eq (x := n - 1 - i) (v := i) (by omega) (by rw [at_delta (by omega)]; omega)] at i4
    omega
  | there _ _ M s => exact h _ s
theorem still_id {n : Nat} : ∀ {L : List (List Nat)}, Still n L → Still n (L ++ [idl n]) := by
  intro L
  induction L with
  | nil => intro _ M s; cases s with | there _ _ _ s => cases s
  | cons p L ih =>
    intro h M s
    have hL : Still n L := fun M s => h _ (.there p _ _ s)
    cases L with
    | nil =>
      cases s with
      | here _ b Y i c =>
        obtain ⟨i1, i2, i3, _⟩ := c
        rw [at_idl i2, at_idl (by omega)] at i3; omega
      | there _ _ _ s => cases s with | there _ _ _ s => cases s
    | cons q L =>
      cases s with
      | here _ b Y i c => exact h _ (.here _ _ _ _ c)
      | there _ _ M s => exact ih hL _ s
theorem push_delta {n : Nat} (R : List (List Nat)) : ∀ {P : List (List Nat)}, AllP n P → Rt (Step n) (P.map (tur n) ++ delta n :: R) (delta n :: (P ++ R)) := by
  intro P
  induction P with
  | nil => intro _; exact .refl _
  | cons p P ih =>
    intro h
    have h1 := (ih h.tail).there (tur n p)
    refine h1.trans ?_
    have h2 := to_delta (P ++ R) h.head.tur
    rw [tur_tur h.head] at h2
    exact h2
theorem sink_id {n : Nat} : ∀ {R : List (List Nat)}, AllP n R → Rt (Step n) (idl n :: R) (R ++ [idl n]) := by
  intro R
  induction R with
  | nil => intro _; exact .refl _
  | cons p R ih => intro h; exact (id_sink R h.head).trans ((ih h.tail).there p)

/-- a letter of n strands -/
def InR (n : Nat) (x : Int) : Prop := x ≠ 0 ∧ -(n : Int) < x ∧ x < n
def bse (n : Nat) (x : Int) : List Nat := if 0 < x then sg n x.toNat else dl n (-x).toNat
def ng (x : Int) : Nat := if x < 0 then 1 else 0
def ngs : List Int → Nat
  | [] => 0
  | x :: w => ng x + ngs w
def itr (n : Nat) : Nat → List Nat → List Nat
  | 0, p => p
  | k + 1, p => tur n (itr n k p)
/-- the factors of a word -/
def Lst (n : Nat) : List Int → List (List Nat)
  | [] => []
  | x :: w => itr n (ngs w) (bse n x) :: Lst n w
theorem ngs_app (u v : List Int) : ngs (u ++ v) = ngs u + ngs v := by
  induction u with
  | nil => simp [ngs]
  | cons x u ih => simp only [List.cons_append, ngs, ih]; omega
theorem itr_add (n j k : Nat) (p : List Nat) : itr n (j + k) p = itr n j (itr n k p) := by
  induction j with
  | zero => simp [itr]
  | succ j ih => rw [Nat.succ_add]; unfold itr; rw [ih]
theorem lst_app (n : Nat) (u v : List Int) : Lst n (u ++ v) = (Lst n u).map (itr n (ngs v)) ++ Lst n v := by
  induction u with
  | nil => rfl
  | cons x u ih => simp only [List.cons_append, Lst, ih, List.map_cons]; rw [ngs_app, Nat.add_comm, itr_add]
theorem InR.perm {n : Nat} {x : Int} (h : InR n x) : PermL n (bse n x) := by
  obtain ⟨h0, h1, h2⟩ := h
  unfold bse; split
  · exact perm_sg (by omega) (by omega)
  · exact perm_dl (by omega) (by omega)
theorem PermL.itr {n k : Nat} {p : List Nat} (h : PermL n p) : PermL n (itr n k p) := by
  induction k with
  | zero => exact h
  | succ k ih => exact ih.tur
theorem lst_allP {n : Nat} {w : List Int} (h : ∀ x ∈ w, InR n x) : AllP n (Lst n w) := by
  induction w with
  | nil => exact AllP.nil
  | cons x w ih => exact AllP.cons ((h x (List.mem_cons_self ..)).perm.itr) (ih fun y hy => h y (List.mem_cons_of_mem _ hy))
/-- a letter turned -/
def tl (n : Nat) (x : Int) : Int := if 0 < x then n - x else -n - x
def itl (n : Nat) : Nat → Int → Int
  | 0, x => x
  | k + 1, x => tl n (itl n k x)
theorem InR.tl {n : Nat} {x : Int} (h : InR n x) : InR n (tl n x) := by
  obtain ⟨h0, h1, h2⟩ := h
  unfold Brd.tl InR; split <;> omega
theorem tur_bse {n : Nat} {x : Int} (h : InR n x) : tur n (bse n x) = bse n (tl n x) := by
  obtain ⟨h0, h1, h2⟩ := h
  unfold bse tl
  by_cases hx : 0 < x
  · rw [if_pos hx, if_pos hx, if_pos (by omega), tur_sg (by omega) (by omega)]
    congr 1; omega
  · rw [if_neg hx, if_neg hx, if_neg (by omega), tur_dl (by omega) (by omega)]
    congr 1; omega
theorem InR.itl {n k : Nat} {x : Int} (h : InR n x) : InR n (itl n k x) := by
  induction k with
  | zero => exact h
  | succ k ih => exact ih.tl
theorem itr_bse {n k : Nat} {x : Int} (h : InR n x) : itr n k (bse n x) = bse n (itl n k x) := by
  induction k with
  | zero => rfl
  | succ k ih => unfold itr; rw [ih, tur_bse h.itl]; rfl
def Far (x y : Int) : Prop := x.natAbs + 1 < y.natAbs ∨ y.natAbs + 1 < x.natAbs
theorem far_tl {n : Nat} {x y : Int} (hx : InR n x) (hy : InR n y) (h : Far x y) : Far (tl n x) (tl n y) := by
  obtain ⟨h0, h1, h2⟩ := hx; obtain ⟨k0, k1, k2⟩ := hy
  unfold Far tl at *; split <;> split <;> omega
theorem far_itl {n k : Nat} {x y : Int} (hx : InR n x) (hy : InR n y) (h : Far x y) : Far (itl n k x) (itl n k y) := by
  induction k with
  | zero => exact h
  | succ k ih => exact far_tl hx.itl hy.itl ih
theorem ng_tl {n : Nat} {x : Int} (h : InR n x) : ng (tl n x) = ng x := by
  obtain ⟨h0, h1, h2⟩ := h
  unfold ng tl; repeat' split
  all_goals omega
theorem ng_itl {n k : Nat} {x : Int} (h : InR n x) : ng (itl n k x) = ng x := by
  induction k with
  | zero => rfl
  | succ k ih => show ng (tl n (itl n k x)) = _; rw [ng_tl h.itl, ih]
theorem tl_neg {n : Nat} {x : Int} (h : InR n x) : tl n (-x) = -(tl n x) := by
  obtain ⟨h0, h1, h2⟩ := h
  unfold tl; repeat' split
  all_goals omega
theorem InR.neg {n : Nat} {x : Int} (h : InR n x) : InR n (-x) := by
  obtain ⟨h0, h1, h2⟩ := h; unfold InR; omega
theorem itl_neg {n k : Nat} {x : Int} (h : InR n x) : itl n k (-x) = -(itl n k x) := by
  induction k with
  | zero => rfl
  | succ k ih => show tl n (itl n k (-x)) = -(tl n (itl n k x)); rw [ih, tl_neg h.itl]

theorem bse_pos {n : Nat} {x : Int} (h : 0 < x) : bse n x = sg n x.toNat := if_pos h
theorem bse_neg {n : Nat} {x : Int} (h : ¬ 0 < x) : bse n x = dl n (-x).toNat := if_neg h
/-- two letters that do not touch, in either order -/
theorem pair_far {n : Nat} (Y : List (List Nat)) {x y : Int} (hx : InR n x) (hy : InR n y) (hf : Far x y) : Jn n (itr n (ng y) (bse n x) :: bse n y :: Y) (itr n (ng x) (bse n y) :: bse n x :: Y) := by
  have hx' := hx; have hy' := hy
  obtain ⟨h0, h1, h2⟩ := hx; obtain ⟨k0, k1, k2⟩ := hy
  unfold Far at hf
  by_cases px : 0 < x
  · by_cases py : 0 < y
    · have e1 : ng y = 0 := if_neg (by omega)
      have e2 : ng x = 0 := if_neg (by omega)
      rw [e1, e2]
      show Jn n (bse n x :: bse n y :: Y) (bse n y :: bse n x :: Y)
      rw [bse_pos px, bse_pos py]
      refine ⟨_, sg_sg Y (by omega) (by omega) (by omega) (by omega) (by omega), ?_⟩
      have := sg_sg (n := n) (i := y.toNat) (j := x.toNat) Y (by omega) (by omega) (by omega) (by omega) (by omega)
      rwa [show lst n (fun a => sx x.toNat (sx y.toNat a)) = lst n (fun a => sx y.toNat (sx x.toNat a)) from by
        unfold lst; refine List.map_congr_left fun a _ => ?_; rw [sx_comm (by omega) (by omega) (by omega)]] at this
    · have e1 : ng y = 1 := if_pos (by omega)
      have e2 : ng x = 0 := if_neg (by omega)
      rw [e1, e2]
      show Jn n (tur n (bse n x) :: bse n y :: Y) (bse n y :: bse n x :: Y)
      rw [bse_pos px, bse_neg py, tur_sg (by omega) (by omega)]
      exact ⟨_, sg_dl_far Y (by omega) (by omega) (by omega) (by omega) (by omega), .refl _⟩
  · by_cases py : 0 < y
    · have e1 : ng y = 0 := if_neg (by omega)
      have e2 : ng x = 1 := if_pos (by omega)
      rw [e1, e2]
      show Jn n (bse n x :: bse n y :: Y) (tur n (bse n y) :: bse n x :: Y)
      rw [bse_neg px, bse_pos py, tur_sg (by omega) (by omega)]
      exact ⟨_, .refl _, sg_dl_far Y (by omega) (by omega) (by omega) (by omega) (by omega)⟩
    · have e1 : ng y = 1 := if_pos (by omega)
      have e2 : ng x = 1 := if_pos (by omega)
      rw [e1, e2]
      show Jn n (tur n (bse n x) :: bse n y :: Y) (tur n (bse n y) :: bse n x :: Y)
      rw [bse_neg px, bse_neg py, tur_dl (by omega) (by omega), tur_dl (by omega) (by omega)]
      refine ⟨_, dl_dl Y (by omega) (by omega) (by omega) (by omega) (by omega), ?_⟩
      have := dl_dl (n := n) (i := (-y).toNat) (j := (-x).toNat) Y (by omega) (by omega) (by omega) (by omega) (by omega)
      rwa [show lst n (fun a => sx (-x).toNat (sx (-y).toNat (n - 1 - a))) = lst n (fun a => sx (-y).toNat (sx (-x).toNat (n - 1 - a))) from by
        unfold lst; refine List.map_congr_left fun a _ => ?_; rw [sx_comm (by omega) (by omega) (by omega)]] at this
/-- a letter and its inverse -/
theorem pair_inv {n : Nat} (Y : List (List Nat)) {x : Int} (hx : InR n x) : Rt (Step n) (itr n (ng (-x)) (bse n x) :: bse n (-x) :: Y) (delta n :: idl n :: Y) := by
  obtain ⟨h0, h1, h2⟩ := hx
  by_cases px : 0 < x
  · have e1 : ng (-x) = 1 := if_pos (by omega)
    rw [e1]
    show Rt (Step n) (tur n (bse n x) :: bse n (-x) :: Y) _
    rw [bse_pos px, bse_neg (by omega), tur_sg (by omega) (by omega), show (- -x).toNat = x.toNat by omega]
    exact sg_dl Y (by omega) (by omega)
  · have e1 : ng (-x) = 0 := if_neg (by omega)
    rw [e1]
    show Rt (Step n) (bse n x :: bse n (-x) :: Y) _
    rw [bse_neg px, bse_pos (by omega)]
    exact dl_sg Y (by omega) (by omega)
/-- the normal form of a word -/
def Fin_ (n : Nat) (w : List Int) (r : Int × List (List Nat)) : Prop := ∃ t, Nf n (Lst n w) t ∧ r = post n (-(ngs w : Int)) [] t
theorem jn_app {n : Nat} {L M : List (List Nat)} (X : List (List Nat)) (h : Jn n L M) : Jn n (X ++ L) (X ++ M) := by
  obtain ⟨t, h1, h2⟩ := h; exact ⟨_, h1.app X, h2.app X⟩
theorem jn_comm {n : Nat} {u v : List Int} {x y : Int} (hx : InR n x) (hy : InR n y) (hf : Far x y) : Jn n (Lst n (u ++ x :: y :: v)) (Lst n (u ++ y :: x :: v)) := by
  rw [lst_app, lst_app]
  rw [show ngs (y :: x :: v) = ngs (x :: y :: v) from by simp only [ngs]; omega]
  refine jn_app _ ?_
  show Jn n (itr n (ng y + ngs v) (bse n x) :: itr n (ngs v) (bse n y) :: Lst n v) (itr n (ng x + ngs v) (bse n y) :: itr n (ngs v) (bse n x) :: Lst n v)
  rw [itr_add, itr_add, itr_bse hx, itr_bse hy, ← ng_itl (k := ngs v) hx, ← ng_itl (k := ngs v) hy]
  exact pair_far _ hx.itl hy.itl (far_itl hx hy hf)
theorem rt_canc {n : Nat} {u v : List Int} {x : Int} (hx : InR n x) (hu : ∀ y ∈ u, InR n y) (hv : ∀ y ∈ v, InR n y) : Rt (Step n) (Lst n (u ++ x :: -x :: v)) (delta n :: (Lst n (u ++ v) ++ [idl n])) := by
  rw [lst_app, lst_app]
  have e1 : ngs (x :: -x :: v) = 1 + ngs v := by
    have : ng x + ng (-x) = 1 := by obtain ⟨h0, _, _⟩ := hx; unfold ng; split <;> split <;> omega
    simp only [ngs]; omega
  have hP : AllP n ((Lst n u).map (itr n (ngs v))) := by
    intro p hp
    obtain ⟨q, hq, rfl⟩ := List.mem_map.1 hp
    exact (lst_allP hu q hq).itr
  have e2 : (Lst n u).map (itr n (1 + ngs v)) = ((Lst n u).map (itr n (ngs v))).map (tur n) := by
    rw [List.map_map]; refine List.map_congr_left fun p _ => ?_
    rw [itr_add]; rfl
  rw [e1, e2]
  have h1 : Rt (Step n) (Lst n (x :: -x :: v)) (delta n :: idl n :: Lst n v) := by
    show Rt (Step n) (itr n (ng (-x) + ngs v) (bse n x) :: itr n (ngs v) (bse n (-x)) :: Lst n v) _
    rw [itr_add, itr_bse hx, itr_bse hx.neg, itl_neg hx, ← ng_itl (k := ngs v) hx.neg, itl_neg hx]
    exact pair_inv _ hx.itl
  refine (h1.app _).trans ((push_delta _ hP).trans ?_)
  rw [List.append_assoc]
  exact ((sink_id (lst_allP hv)).app _).there (delta n)
theorem fin_comm {n : Nat} {u v : List Int} {x y : Int} (hu : ∀ z ∈ u ++ x :: y :: v, InR n z) (hf : Far x y) {r : Int × List (List Nat)} (h : Fin_ n (u ++ x :: y :: v) r) : Fin_ n (u ++ y :: x :: v) r := by
  obtain ⟨t, h1, rfl⟩ := h
  have hx : InR n x := hu x (by simp)
  have hy : InR n y := hu y (by simp)
  have hu2 : ∀ z ∈ u ++ y :: x :: v, InR n z := fun z hz => hu z (by simp only [List.mem_append, List.mem_cons] at hz ⊢; rcases hz with h | h | h | h <;> simp [h])
  obtain ⟨t2, h2⟩ := nf_ex (n := n) _ _ (Nat.le_refl _) (lst_allP hu2)
  refine ⟨t2, h2, ?_⟩
  rw [(jn_comm (u := u) (v := v) hx hy hf).nf (lst_allP hu) (lst_allP hu2) h1 h2]
  rw [ngs_app, ngs_app, show ngs (y :: x :: v) = ngs (x :: y :: v) from by simp only [ngs]; omega]
theorem fin_canc {n : Nat} (hn : 1 < n) {u v : List Int} {x : Int} (hu : ∀ z ∈ u ++ x :: -x :: v, InR n z) {r : Int × List (List Nat)} : Fin_ n (u ++ x :: -x :: v) r ↔ Fin_ n (u ++ v) r := by
  have hx : InR n x := hu x (by simp)
  have hu1 : ∀ z ∈ u, InR n z := fun z hz => hu z (by simp [hz])
  have hv1 : ∀ z ∈ v, InR n z := fun z hz => hu z (by simp [hz])
  have huv : ∀ z ∈ u ++ v, InR n z := fun z hz => by rcases List.mem_append.1 hz with h | h; exact hu1 z h; exact hv1 z h
  obtain ⟨t, ht1, ht2⟩ := nf_ex (n := n) _ _ (Nat.le_refl _) (lst_allP huv)
  have hN : Nf n (Lst n (u ++ x :: -x :: v)) (delta n :: (t ++ [idl n])) :=
    ⟨(rt_canc hx hu1 hv1).trans ((ht1.appR [idl n]).there (delta n)), still_delta (still_id ht2)⟩
  have e1 : ngs (u ++ x :: -x :: v) = 1 + ngs (u ++ v) := by
    have : ng x + ng (-x) = 1 := by obtain ⟨h0, _, _⟩ := hx; unfold ng; split <;> split <;> omega
    rw [ngs_app, ngs_app]; simp only [ngs]; omega
  have e2 : post n (-(ngs (u ++ x :: -x :: v) : Int)) [] (delta n :: (t ++ [idl n])) = post n (-(ngs (u ++ v) : Int)) [] t := by
    rw [post_delta hn, post_id hn, e1]; congr 1; omega
  constructor
  · rintro ⟨s, hs, rfl⟩
    rw [hs.uniq (lst_allP hu) hN, e2]; exact ⟨t, ⟨ht1, ht2⟩, rfl⟩
  · rintro ⟨s, hs, rfl⟩
    refine ⟨_, hN, ?_⟩
    rw [e2, hs.uniq (lst_allP huv) ⟨ht1, ht2⟩]
theorem Fin_.uniq {n : Nat} {w : List Int} (hw : ∀ z ∈ w, InR n z) {r s : Int × List (List Nat)} (h : Fin_ n w r) (k : Fin_ n w s) : r = s := by
  obtain ⟨t, h1, rfl⟩ := h; obtain ⟨u, h2, rfl⟩ := k
  rw [h1.uniq (lst_allP hw) h2]
/-- words that are equal by exchanges of letters that do not touch, and by pairs that undo each other -/
inductive BrEq (n : Nat) : List Int → List Int → Prop
  | refl (w : List Int) : BrEq n w w
  | comm (u v w : List Int) (x y : Int) (h : Far x y) (t : BrEq n (u ++ y :: x :: v) w) : BrEq n (u ++ x :: y :: v) w
  | canc (u v w : List Int) (x : Int) (h : InR n x) (t : BrEq n (u ++ v) w) : BrEq n (u ++ x :: -x :: v) w
  | ins (u v w : List Int) (x : Int) (h : InR n x) (t : BrEq n (u ++ x :: -x :: v) w) : BrEq n (u ++ v) w
theorem BrEq.fin {n : Nat} (hn : 1 < n) {w w' : List Int} (h : BrEq n w w') (hw : ∀ z ∈ w, InR n z) {r : Int × List (List Nat)} (hr : Fin_ n w r) : Fin_ n w' r ∧ ∀ z ∈ w', InR n z := by
  induction h with
  | refl => exact ⟨hr, hw⟩
  | comm u v w x y hf t ih =>
    refine ih (fun z hz => hw z ?_) (fin_comm hw hf hr)
    simp only [List.mem_append, List.mem_cons] at hz ⊢
    rcases hz with h | h | h | h <;> simp [h]
  | canc u v w x hx t ih =>
    refine ih (fun z hz => hw z ?_) ((fin_canc hn hw).1 hr)
    simp only [List.mem_append, List.mem_cons] at hz ⊢
    rcases hz with h | h <;> simp [h]
  | ins u v w x hx t ih =>
    have hw2 : ∀ z ∈ u ++ x :: -x :: v, InR n z := fun z hz => by
      simp only [List.mem_append, List.mem_cons] at hz
      rcases hz with h | h | h | h
      · exact hw z (by simp [h])
      · rw [h]; exact hx
      · rw [h]; exact hx.neg
      · exact hw z (by simp [h])
    exact ih hw2 ((fin_canc hn hw2).2 hr)
theorem BrEq.same {n : Nat} (hn : 1 < n) {w w' : List Int} (h : BrEq n w w') (hw : ∀ z ∈ w, InR n z) {r s : Int × List (List Nat)} (hr : Fin_ n w r) (hs : Fin_ n w' s) : r = s :=
  (h.fin hn hw hr).1.uniq (h.fin hn hw hr).2 hs
theorem BrEq.trans {n : Nat} {a b c : List Int} (h : BrEq n a b) (k : BrEq n b c) : BrEq n a c := by
  induction h with
  | refl => exact k
  | comm u v w x y hf t ih => exact .comm _ _ _ _ _ hf (ih k)
  | canc u v w x hx t ih => exact .canc _ _ _ _ hx (ih k)
  | ins u v w x hx t ih => exact .ins _ _ _ _ hx (ih k)
theorem BrEq.symm {n : Nat} {a b : List Int} (h : BrEq n a b) : BrEq n b a := by
  induction h with
  | refl w => exact .refl w
  | comm u v w x y hf t ih => exact ih.trans (.comm u v _ y x (by unfold Far at *; omega) (.refl _))
  | canc u v w x hx t ih => exact ih.trans (.ins u v _ x hx (.refl _))
  | ins u v w x hx t ih => exact ih.trans (.canc u v _ x hx (.refl _))
theorem BrEq.ctx {n : Nat} {a b : List Int} (h : BrEq n a b) (P Q : List Int) : BrEq n (P ++ a ++ Q) (P ++ b ++ Q) := by
  induction h with
  | refl w => exact .refl _
  | comm u v w x y hf t ih =>
    have := BrEq.comm (n := n) (P ++ u) (v ++ Q) (P ++ w ++ Q) x y hf (by simpa using ih)
    simpa using this
  | canc u v w x hx t ih =>
    have := BrEq.canc (n := n) (P ++ u) (v ++ Q) (P ++ w ++ Q) x hx (by simpa using ih)
    simpa using this
  | ins u v w x hx t ih =>
    have := BrEq.ins (n := n) (P ++ u) (v ++ Q) (P ++ w ++ Q) x hx (by simpa using ih)
    simpa using this
theorem BrEq.left {n : Nat} {a b : List Int} (h : BrEq n a b) (P : List Int) : BrEq n (P ++ a) (P ++ b) := by simpa using h.ctx P []
theorem BrEq.right {n : Nat} {a b : List Int} (h : BrEq n a b) (Q : List Int) : BrEq n (a ++ Q) (b ++ Q) := by simpa using h.ctx [] Q
theorem BrEq.app {n : Nat} {a b c d : List Int} (h : BrEq n a b) (k : BrEq n c d) : BrEq n (a ++ c) (b ++ d) := (h.right c).trans (k.left b)
theorem breq_one {n : Nat} {x : Int} : ∀ {A : List Int}, (∀ y ∈ A, Far x y) → BrEq n (x :: A) (A ++ [x]) := by
  intro A
  induction A with
  | nil => intro _; exact .refl _
  | cons y A ih =>
    intro h
    refine .comm [] A _ x y (h y (List.mem_cons_self ..)) ?_
    have := (ih (fun z hz => h z (List.mem_cons_of_mem _ hz))).left [y]
    simpa using this
theorem breq_comm {n : Nat} : ∀ {A B : List Int}, (∀ x ∈ A, ∀ y ∈ B, Far x y) → BrEq n (A ++ B) (B ++ A) := by
  intro A
  induction A with
  | nil => intro B _; simpa using BrEq.refl B
  | cons x A ih =>
    intro B h
    have h1 := (ih (B := B) (fun y hy => h y (List.mem_cons_of_mem _ hy))).left [x]
    have h2 := (breq_one (n := n) (h x (List.mem_cons_self ..))).right A
    have h3 := h1.trans (by simpa using h2)
    simpa using h3
end Brd
end Go.Proofs.Ytfnklchhhojimaa
