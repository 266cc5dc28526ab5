/- faults: the kinds; find. -/
import Derived.Test.YtfnklchhhojimaaFaultM
import Derived.Test.YtfnklchhhojimaaShelf
import Derived.Laws.EntriesVeiled
import Derived.Deep.RegionHeld3
set_option linter.unusedSimpArgs false
set_option linter.unusedVariables false
namespace Go.Proofs.Ytfnklchhhojimaa
open Go Go.RowKit Tor

/-- where the lists of the kinds lie -/
structure KAt where
  a : Nat
  b : Nat
  cb : Nat
  p : Nat
def KAt.withs (K : KAt) (k : Int) : Value := if k = 2 then .slice (some ⟨K.b, 0, none⟩) 9 K.cb else if k = 5 then .slice (some ⟨K.p, 0, none⟩) 2 2 else .slice (some ⟨K.a, 0, none⟩) 1 1
def withsL (k : Int) : List Int := if k = 2 then faultLetters else if k = 5 then [-1, 1] else [0]
def kname (k : Int) : ByteArray := if k = 1 then ⟨#[109, 105, 115, 115]⟩ else if k = 2 then ⟨#[101, 120, 116, 114, 97]⟩ else if k = 3 then ⟨#[116, 117, 114, 110]⟩ else if k = 4 then ⟨#[115, 107, 105, 112]⟩
  else if k = 5 then ⟨#[112, 108, 97, 99, 101]⟩ else ⟨#[115, 119, 97, 112]⟩
def klet (k : Int) : Bool := decide (k = 1 ∨ k = 2 ∨ k = 3)
def klf (k : Int) : FuncId := if k = 2 then 34 else if k = 1 ∨ k = 3 then 30 else 31
def kpf (k : Int) : FuncId := if k = 1 then 32 else if k = 2 then 35 else if k = 3 then 36 else if k = 4 then 38
  else if k = 5 then 40 else 41
def kcells (K : KAt) (k : Int) : List Value := [.int .i64 k, .string (kname k), .bool (klet k), K.withs k, .func (.func (klf k)) #[] #[], .func (.func (kpf k)) #[] #[]]
def kcell (K : KAt) (k : Int) : List Value := if 1 ≤ k ∧ k ≤ 6 then kcells K k else [.int .i64 0, .string ⟨#[]⟩, .bool false, .slice none 0 0, .nilFunc, .nilFunc]
structure KindsAt (w : World) (H g : Nat) (K : KAt) : Prop where
  lt : g < H
  blk : Blk w g 72 (kcells K 1 ++ kcells K 2 ++ kcells K 3 ++ kcells K 4 ++ kcells K 5 ++ kcells K 6).toArray
  wa : RdI w H (some ⟨K.a, 0, none⟩) [0]
  wb : RdI w H (some ⟨K.b, 0, none⟩) faultLetters
  wp : RdI w H (some ⟨K.p, 0, none⟩) [-1, 1]
theorem KindsAt.below {w w' : World} {H g : Nat} {K : KAt} (h : KindsAt w H g K) {H' : Nat} (hB : Below H' w w') (hH : H ≤ H') : KindsAt w' H g K :=
  ⟨h.lt, h.blk.below hB (Nat.lt_of_lt_of_le h.lt hH), h.wa.below' hB hH, h.wb.below' hB hH, h.wp.below' hB hH⟩

theorem containsI_any (A : Option Addr) (l : List Int) (c : Nat) (x : Int) (w : World) (H : Nat) (hr : RdI w H A l) (hl : l.length ≤ 1000) :
    Calls Try.prog 64 #[.slice A l.length c, .int .i64 x] w (Ret (.bool (l.contains x)) w) := by
  by_cases h0 : l = []
  · subst h0
    exact (Try.slices_Contains_int_empty A c x w).mono fun e w' ⟨h1, h2⟩ => by subst h1; subst h2; exact ⟨rfl, Below.refl _ _⟩
  · obtain ⟨b, o, rfl, hb, hc⟩ := hr h0
    refine (Try.slices_Contains_int b o l.length c l x w (Nat.le_refl _) (by omega) ?_).mono fun e w' ⟨h1, h2⟩ => ?_
    · intro j hj
      have hx : l[j]? = some l[j] := List.getElem?_eq_getElem hj
      have := hc j _ hx 0 _ rfl
      simp only [Nat.mul_one, Nat.add_zero] at this
      rw [this]; simp [hj]
    · subst h1; subst h2; rw [List.take_length]; exact ⟨rfl, Below.refl _ _⟩
theorem Rd.int1 {w : World} {b : Nat} {H : Nat} {x : Int} (hb : b < H) (h : w.cell? ⟨b, 0, none⟩ = some (.int .i64 x)) : RdI w H (some ⟨b, 0, none⟩) [x] := fun _ => by
  refine ⟨b, 0, rfl, hb, fun k y hy j u hu => ?_⟩
  match k, hy with
  | 0, hy =>
    simp only [List.getElem?_cons_zero, Option.some.injEq] at hy
    subst hy
    match j, hu with
    | 0, hu => simp [ienc] at hu; subst hu; exact h
theorem Rd.int2 {w : World} {b : Nat} {H : Nat} {x y : Int} (hb : b < H) (h : w.cell? ⟨b, 0, none⟩ = some (.int .i64 x)) (h2 : w.cell? ⟨b, 1, none⟩ = some (.int .i64 y)) : RdI w H (some ⟨b, 0, none⟩) [x, y] := fun _ => by
  refine ⟨b, 0, rfl, hb, fun k z hz j u hu => ?_⟩
  match k, hz with
  | 0, hz =>
    simp only [List.getElem?_cons_zero, Option.some.injEq] at hz
    subst hz
    match j, hu with
    | 0, hu => simp [ienc] at hu; subst hu; exact h
  | 1, hz =>
    simp only [List.getElem?_cons_succ, List.getElem?_cons_zero, Option.some.injEq] at hz
    subst hz
    match j, hu with
    | 0, hu => simp [ienc] at hu; subst hu; exact h2

theorem letter_step (k : Nat) (h : k < (⟨#[67, 76, 80, 82, 84, 99, 108, 114, 116]⟩ : ByteArray).size) : faultLetters.take k ++ [wrap64 ((⟨#[67, 76, 80, 82, 84, 99, 108, 114, 116]⟩ : ByteArray)[k].toNat : Int)] = faultLetters.take (k + 1) := by
  have hw : ∀ c : UInt8, wrap64 (c.toNat : Int) = c.toNat := fun c => by have := c.toNat_lt; exact IntWalk.wrap64_in _ (by omega)
  rw [hw]
  have h9 : ∀ j : Fin 9, faultLetters.take j ++ [((⟨#[67, 76, 80, 82, 84, 99, 108, 114, 116]⟩ : ByteArray)[j.1].toNat : Int)] = faultLetters.take (j + 1) := by decide
  exact h9 ⟨k, h⟩

set_option maxRecDepth 100000 in
set_option maxHeartbeats 1000000 in
theorem kinds_any (w : World) : Calls Try.prog 14 #[] w fun e w' => ∃ (g : Nat) (K : KAt), e = .returned (.slice (some ⟨g, 0, none⟩) 6 6) ∧ KindsAt w' w'.heap.size g K ∧ Below w.heap.size w w' := by
  obtain ⟨i0, hi0, hz0', hz1', hz2'⟩ := info_parts infoInt
  go_enter Try.func14, Try.ntmps14
  go_wp2_with fail
  obtain ⟨w1, hw1⟩ : ∃ w1, Hid (w1 = w.alloc (.cells #[.int .i64 0] 3)) := ⟨_, Lib.hid rfl⟩
  rw [← hw1.out]
  have kN : Blk w1 w.heap.size 3 #[.int .i64 0] := by rw [hw1.out]; exact Blk.new _ _ _
  have hB1 : Below w.heap.size w w1 := by rw [hw1.out]; (repeat' first | exact Below.refl _ _ | apply Below.drew | (refine Below.setCells ?_ _ _ ?_) | (refine Below.setCell ?_ ?_ _) | (refine Below.alloc ?_ ?_ _) | (simp; done) | (simp; omega))
  have hz1 := hB1.size
  have nl := kN.lt
  go_loopw [2, 7] (fun v i wr => ∃ k : Nat, k ≤ 9 ∧ i = .int .i64 k ∧ Own 1 ienc wr w1.heap.size 3 v (faultLetters.take k) ∧ Below w1.heap.size w1 wr) (fun _ i _ => 9 - (intOf i).toNat)
  case atStart => exact ⟨0, by omega, rfl, Own.nil _ _ _, Below.refl _ _⟩
  case round =>
    obtain ⟨k, hk, rfl, hown, hB⟩ := hrel
    have hz := hB.size
    by_cases hlt : k < 9
    · rcases (show k = 0 ∨ k = 1 ∨ k = 2 ∨ k = 3 ∨ k = 4 ∨ k = 5 ∨ k = 6 ∨ k = 7 ∨ k = 8 by omega) with rfl | rfl | rfl | rfl | rfl | rfl | rfl | rfl | rfl
      all_goals
        go_wp2_with (first
          | (at_builtin; refine wpList_append_i rfl (.tmp 10) (.tmp 14) _ rfl w1.heap.size _ i0 _ Try.underlying38 hi0 hz0' hz1' hz2' rfl _ _ rfl (hown.alloc _) wr.heap.size _ rfl (cell_new rfl) (by decide) (by simp; omega) ?_; intro v' w4 hown4 hg4)
          | fail)
        go_roundw
        case rel =>
          have e5 := hown4
          first
            | (rw [letter_step 0 (by decide)] at e5; exact ⟨0 + 1, by decide, by go_num, e5, (hown.alloc _).grown (hB.alloc hz _) hg4 (by simp; omega)⟩)
            | (rw [letter_step 1 (by decide)] at e5; exact ⟨1 + 1, by decide, by go_num, e5, (hown.alloc _).grown (hB.alloc hz _) hg4 (by simp; omega)⟩)
            | (rw [letter_step 2 (by decide)] at e5; exact ⟨2 + 1, by decide, by go_num, e5, (hown.alloc _).grown (hB.alloc hz _) hg4 (by simp; omega)⟩)
            | (rw [letter_step 3 (by decide)] at e5; exact ⟨3 + 1, by decide, by go_num, e5, (hown.alloc _).grown (hB.alloc hz _) hg4 (by simp; omega)⟩)
            | (rw [letter_step 4 (by decide)] at e5; exact ⟨4 + 1, by decide, by go_num, e5, (hown.alloc _).grown (hB.alloc hz _) hg4 (by simp; omega)⟩)
            | (rw [letter_step 5 (by decide)] at e5; exact ⟨5 + 1, by decide, by go_num, e5, (hown.alloc _).grown (hB.alloc hz _) hg4 (by simp; omega)⟩)
            | (rw [letter_step 6 (by decide)] at e5; exact ⟨6 + 1, by decide, by go_num, e5, (hown.alloc _).grown (hB.alloc hz _) hg4 (by simp; omega)⟩)
            | (rw [letter_step 7 (by decide)] at e5; exact ⟨7 + 1, by decide, by go_num, e5, (hown.alloc _).grown (hB.alloc hz _) hg4 (by simp; omega)⟩)
            | (rw [letter_step 8 (by decide)] at e5; exact ⟨8 + 1, by decide, by go_num, e5, (hown.alloc _).grown (hB.alloc hz _) hg4 (by simp; omega)⟩)
        case measure => simp [intOf]
    · have e9 : k = 9 := by omega
      subst e9
      have e9 : (faultLetters.take 9).length = 9 := by decide
      have h2 := hown.2
      rw [e9] at h2
      rcases h2 with ⟨_, h0⟩ | ⟨g, cb, cur, rfl, _⟩
      · exact absurd h0 (by decide)
      obtain ⟨A, c', hv, -, hrd⟩ := Own.rd int_len hown
      simp only [Value.slice.injEq] at hv
      obtain ⟨rfl, -, -⟩ := hv
      have hrd : RdI wr wr.heap.size (some ⟨g, 0, none⟩) faultLetters := hrd
      have kNr := kN.below hB nl
      go_wp2_with fail
      go_ret
      have hBr : Below wr.heap.size wr (((wr.alloc (.cells #[.int .i64 (-1), .int .i64 1] 3))).alloc (.cells (kcells ⟨w.heap.size, g, cb, wr.heap.size⟩ 1 ++ kcells ⟨w.heap.size, g, cb, wr.heap.size⟩ 2 ++ kcells ⟨w.heap.size, g, cb, wr.heap.size⟩ 3 ++ kcells ⟨w.heap.size, g, cb, wr.heap.size⟩ 4 ++ kcells ⟨w.heap.size, g, cb, wr.heap.size⟩ 5 ++ kcells ⟨w.heap.size, g, cb, wr.heap.size⟩ 6).toArray 72)) := by (repeat' first | exact Below.refl _ _ | apply Below.drew | (refine Below.setCells ?_ _ _ ?_) | (refine Below.setCell ?_ ?_ _) | (refine Below.alloc ?_ ?_ _) | (simp; done) | (simp; omega))
      refine ⟨wr.heap.size + 1, ⟨w.heap.size, g, cb, wr.heap.size⟩, by simp, ⟨by simp, ?_, ?_, ?_, ?_⟩, (hB1.trans (hB.mono hz1)).trans (hBr.mono (Nat.le_trans hz1 hz))⟩
      · have := Blk.new (wr.alloc (.cells #[.int .i64 (-1), .int .i64 1] 3)) 72 (kcells ⟨w.heap.size, g, cb, wr.heap.size⟩ 1 ++ kcells ⟨w.heap.size, g, cb, wr.heap.size⟩ 2 ++ kcells ⟨w.heap.size, g, cb, wr.heap.size⟩ 3 ++ kcells ⟨w.heap.size, g, cb, wr.heap.size⟩ 4 ++ kcells ⟨w.heap.size, g, cb, wr.heap.size⟩ 5 ++ kcells ⟨w.heap.size, g, cb, wr.heap.size⟩ 6).toArray
        rw [World.size_alloc] at this; exact this
      · exact Rd.int1 (by simp; omega) ((kNr.below hBr (by omega)).cell 0 _ rfl)
      · exact (hrd.below hBr).more (by simp; omega)
      · refine Rd.int2 (by simp; omega) ?_ ?_
        · exact (((Blk.new wr 3 #[.int .i64 (-1), .int .i64 1])).alloc _).cell 0 _ rfl
        · exact (((Blk.new wr 3 #[.int .i64 (-1), .int .i64 1])).alloc _).cell 1 _ rfl

theorem wpAnyJ_skip {P : Program} {ops : Array Oper} {Q : Exit → Act → World → Prop} {md : Region.Mode} {S1 S2 : World → Prop} {J : Nat → Bool} (i : Nat) {oi : Oper} {fuel : Nat} {listed : Array Bool} {a : Act} {w : World} (hi : ops[i]? = some oi)
    (hs : Region.noSelect ops = true) (hf : Region.free md ops listed i = true) (hJ : J i = false) (hr : (Region.ready md ops listed).contains i = true)
    (hQ : ∀ c a w, Q (.panic c) (a.put oi.dst undef) w → Q (.panic c) a w) (hwant : Region.wanted oi (yielded ops a.tmps) = false) (hS : S1 w)
    (h : wpAnyJ P md ops Q S1 S2 J fuel (listed.setIfInBounds i true) (a.put oi.dst undef) w) : wpAnyJ P md ops Q S1 S2 J (fuel + 1) listed a w :=
  wpAnyJ_first (T := S1) hi (Region.noSelect_spec hs) hQ fuel listed a w (Region.free_spec hi hf) (fun _ _ _ _ _ _ => ⟨fun h => (by rw [hJ] at h; cases h), fun _ h _ => h⟩) (by simpa using hr) (Or.inr ⟨hwant, rfl⟩) hS (fun h => (by rw [hJ] at h; cases h)) hS h

def Flt.enc (f : Flt) : Array Value := #[.int .i64 f.k, .int .i64 f.st, .int .i64 f.lt, .int .i64 f.wi]
theorem shapedF_out {f : Flt} (h : ¬ (1 ≤ f.k ∧ f.k ≤ 6)) : shapedF f = false := by
  unfold shapedF
  rw [if_neg (by omega), if_neg (by omega), if_neg (by omega), if_neg (by omega)]
theorem shapedF_in {f : Flt} (h : 1 ≤ f.k ∧ f.k ≤ 6) : shapedF f = ((withsL f.k).contains f.wi && (klet f.k || (f.lt == 0))) := by
  obtain ⟨k, st, lt, wi⟩ := f
  simp only at h
  rcases (show k = 1 ∨ k = 2 ∨ k = 3 ∨ k = 4 ∨ k = 5 ∨ k = 6 by omega) with rfl | rfl | rfl | rfl | rfl | rfl
  all_goals
    simp [shapedF, withsL, klet, faultLetters]
  all_goals
    (by_cases h1 : lt = 0 <;> by_cases h2 : wi = 0 <;> by_cases h3 : wi = -1 <;> by_cases h4 : wi = 1 <;> simp [h1, h2, h3, h4])

theorem KindsAt.withs {w : World} {H g : Nat} {K : KAt} (h : KindsAt w H g K) {k : Int} : ∃ A c, K.withs k = .slice A (withsL k).length c ∧ RdI w H A (withsL k) ∧ (withsL k).length ≤ 1000 := by
  unfold KAt.withs withsL
  split
  · exact ⟨_, _, rfl, h.wb, by decide⟩
  · split
    · exact ⟨_, _, rfl, h.wp, by decide⟩
    · exact ⟨_, _, rfl, h.wa, by decide⟩


theorem kind_ret2 {fn : Func} {p u : Tmp} (h : fn.results = #[.cell p 72, .tmp u]) {R : Ending → World → Prop} {a : Act} {w : World} {g : Nat} {x0 x1 x2 x3 x4 x5 : Value} (hp : a.tmps.getD p undef = .pointer (some ⟨g, 0, none⟩))
    (hb : Blk w g 72 #[x0, x1, x2, x3, x4, x5]) (hd : a.defers = []) (hR : R (.returned (.tuple #[.agg #[x0, x1, x2, x3, x4, x5], a.tmps.getD u undef])) w) : bodyPost Try.prog fn R .ret a w := by
  refine bodyPost_ret (v := .tuple #[.agg #[x0, x1, x2, x3, x4, x5], a.tmps.getD u undef]) ?_ hd hR
  have c0 := hb.cell 0 x0 rfl
  have c1 := hb.cell 1 x1 rfl
  have c2 := hb.cell 2 x2 rfl
  have c3 := hb.cell 3 x3 rfl
  have c4 := hb.cell 4 x4 rfl
  have c5 := hb.cell 5 x5 rfl
  have hp' : a.tmps[p]?.getD undef = .pointer (some ⟨g, 0, none⟩) := by simpa using hp
  simp only [results, h]
  simp [Sem.run_bind, Result.andThen, hp']
  go_simp


set_option maxRecDepth 100000 in
set_option maxHeartbeats 4000000 in
theorem find_any (g : Nat) (K : KAt) (f : Flt) (w : World) (H : Nat) (hK : KindsAt w H g K) (hH : H ≤ w.heap.size) :
    Calls Try.prog 27 #[.slice (some ⟨g, 0, none⟩) 6 6, .agg f.enc] w (Ret (.tuple #[.agg (kcell K f.k).toArray, .bool (shapedF f)]) w) := by
  by_cases hin : 1 ≤ f.k ∧ f.k ≤ 6
  · have hs := Lib.hid (shapedF_in hin)
    obtain ⟨A, c, hv, hr, hn⟩ := hK.withs (k := f.k)
    have hk : Hid (kcell K f.k = kcells K f.k) := by unfold kcell; rw [if_pos hin]; exact Lib.hid rfl
    obtain ⟨k, st, lt, wi⟩ := f
    simp only at hin hs hv hr hn hk
    obtain ⟨C, hC⟩ : ∃ C, Hid ((withsL k).contains wi = C) := ⟨_, Lib.hid rfl⟩
    rw [hC.out] at hs
    have kb := hK.blk
    have gl := hK.lt
    obtain ⟨n, hn'⟩ : ∃ n : Nat, Hid ((withsL k).length = n) := ⟨_, Lib.hid rfl⟩
    rw [hn'.out] at hv
    have HC : Hid (∀ w', Below H w w' → Calls Try.prog 64 #[.slice A n c, .int .i64 wi] w' (Ret (.bool C) w')) := fun w' hB => by
      rw [← hC.out, ← hn'.out]; exact containsI_any A (withsL k) c wi w' H (hr.below hB) hn
    obtain ⟨kn, hkn⟩ : ∃ x, Hid (kname k = x) := ⟨_, Lib.hid rfl⟩
    obtain ⟨kl, hkl⟩ : ∃ x, Hid (klet k = x) := ⟨_, Lib.hid rfl⟩
    obtain ⟨i1, hi1⟩ : ∃ x, Hid (klf k = x) := ⟨_, Lib.hid rfl⟩
    obtain ⟨i2, hi2⟩ : ∃ x, Hid (kpf k = x) := ⟨_, Lib.hid rfl⟩
    have hkc : Hid (kcell K k = [.int .i64 k, .string kn, .bool kl, .slice A n c, .func (.func i1) #[] #[], .func (.func i2) #[] #[]]) := by
      rw [hk.out]; unfold kcells; rw [hkn.out, hkl.out, hv, hi1.out, hi2.out]; exact Lib.hid rfl
    have kc : ∀ j u, (kcells K k)[j]? = some u → w.cell? ⟨g, (k - 1).toNat * 6 + j, none⟩ = some u := fun j u hu => by
      have hj : j < 6 := by have := (List.getElem?_eq_some_iff.1 hu).1; simpa [kcells] using this
      refine kb.cell _ _ ?_
      rcases (show k = 1 ∨ k = 2 ∨ k = 3 ∨ k = 4 ∨ k = 5 ∨ k = 6 by omega) with rfl | rfl | rfl | rfl | rfl | rfl <;>
        rcases (show j = 0 ∨ j = 1 ∨ j = 2 ∨ j = 3 ∨ j = 4 ∨ j = 5 by omega) with rfl | rfl | rfl | rfl | rfl | rfl <;> exact hu
    unfold kcells at kc
    rw [hkn.out, hkl.out, hv, hi1.out, hi2.out] at kc
    have c0 := kc 0 _ rfl
    have c1 := kc 1 _ rfl
    have c2 := kc 2 _ rfl
    have c3 := kc 3 _ rfl
    have c4 := kc 4 _ rfl
    have c5 := kc 5 _ rfl
    rw [hs.out, hkc.out, hkl.out]
    simp only [Flt.enc]
    obtain ⟨q, rfl⟩ : ∃ q : Nat, k = (q : Int) + 1 := ⟨(k - 1).toNat, by omega⟩
    have eq : ((q : Int) + 1 - 1).toNat = q := by omega
    rw [eq] at c0 c1 c2 c3 c4 c5
    rw [Nat.add_zero] at c0
    have j0 : ¬ (q : Int) + 1 < 1 := by omega
    have j1 : ¬ 6 < (q : Int) + 1 := by omega
    have j2 : (0 : Int) ≤ q := by omega
    have j3 : (q : Int) < 6 := by omega
    clear kb hK hr hn hC hn' hkn hkl hi1 hi2 hk hkc hs kc hv hin eq
    have gw : g < w.heap.size := by omega
    go_enter Try.func27, Try.ntmps27
    go_wp2_with fail
    have kF := (((Blk.new w 24 #[.int .i64 ((q : Int) + 1), .int .i64 st, .int .i64 lt, .int .i64 wi]).alloc (.cells #[.int .i64 0, .string ⟨#[]⟩, .bool false, .slice none 0 0, .nilFunc, .nilFunc] 72))).alloc (.cells #[.int .i64 ((q : Int) + 1), .string kn, .bool kl, .slice A n c, .func (.func i1) #[] #[], .func (.func i2) #[] #[]] 72)
    have kZ := (Blk.new (w.alloc (.cells #[.int .i64 ((q : Int) + 1), .int .i64 st, .int .i64 lt, .int .i64 wi] 24)) 72 #[.int .i64 0, .string ⟨#[]⟩, .bool false, .slice none 0 0, .nilFunc, .nilFunc]).alloc (.cells #[.int .i64 ((q : Int) + 1), .string kn, .bool kl, .slice A n c, .func (.func i1) #[] #[], .func (.func i2) #[] #[]] 72)
    have kQ := Blk.new ((w.alloc (.cells #[.int .i64 ((q : Int) + 1), .int .i64 st, .int .i64 lt, .int .i64 wi] 24)).alloc (.cells #[.int .i64 0, .string ⟨#[]⟩, .bool false, .slice none 0 0, .nilFunc, .nilFunc] 72)) 72 #[.int .i64 ((q : Int) + 1), .string kn, .bool kl, .slice A n c, .func (.func i1) #[] #[], .func (.func i2) #[] #[]]
    rw [World.size_alloc] at kZ
    rw [World.size_alloc, World.size_alloc] at kQ
    have hBW : Below w.heap.size w (((w.alloc (.cells #[.int .i64 ((q : Int) + 1), .int .i64 st, .int .i64 lt, .int .i64 wi] 24)).alloc (.cells #[.int .i64 0, .string ⟨#[]⟩, .bool false, .slice none 0 0, .nilFunc, .nilFunc] 72)).alloc (.cells #[.int .i64 ((q : Int) + 1), .string kn, .bool kl, .slice A n c, .func (.func i1) #[] #[], .func (.func i2) #[] #[]] 72)) := by (repeat' first | exact Below.refl _ _ | apply Below.drew | (refine Below.setCells ?_ _ _ ?_) | (refine Below.setCell ?_ ?_ _) | (refine Below.alloc ?_ ?_ _) | (simp; done) | (simp; omega))
    generalize (((w.alloc (.cells #[.int .i64 ((q : Int) + 1), .int .i64 st, .int .i64 lt, .int .i64 wi] 24)).alloc (.cells #[.int .i64 0, .string ⟨#[]⟩, .bool false, .slice none 0 0, .nilFunc, .nilFunc] 72)).alloc (.cells #[.int .i64 ((q : Int) + 1), .string kn, .bool kl, .slice A n c, .func (.func i1) #[] #[], .func (.func i2) #[] #[]] 72)) = W at kF kZ kQ hBW ⊢
    have f2 := kF.cell 2 _ rfl
    have f3 := kF.cell 3 _ rfl
    have fl := kF.lt
    have q0 := kQ.cell 0 _ rfl
    have q1 := kQ.cell 1 _ rfl
    have q2 := kQ.cell 2 _ rfl
    have q3 := kQ.cell 3 _ rfl
    have q4 := kQ.cell 4 _ rfl
    have q5 := kQ.cell 5 _ rfl
    have ql := kQ.lt
    have z0 := kZ.cell 0 _ rfl
    have z1 := kZ.cell 1 _ rfl
    have z2 := kZ.cell 2 _ rfl
    have z3 := kZ.cell 3 _ rfl
    have z4 := kZ.cell 4 _ rfl
    have z5 := kZ.cell 5 _ rfl
    have y0 := kZ.frozen 0
    have y1 := kZ.frozen 1
    have y2 := kZ.frozen 2
    have y3 := kZ.frozen 3
    have y4 := kZ.frozen 4
    have y5 := kZ.frozen 5
    have zl := kZ.lt
    clear c0 c1 c2 c3 c4 c5
    have hS0 : W.drew.cell? ⟨w.heap.size + 1 + 1, 0, none⟩ = some (.int .i64 ((q : Int) + 1)) ∧ W.drew.cell? ⟨w.heap.size + 1 + 1, 1, none⟩ = some (.string kn) ∧ W.drew.cell? ⟨w.heap.size + 1 + 1, 2, none⟩ = some (.bool kl) ∧ W.drew.cell? ⟨w.heap.size + 1 + 1, 3, none⟩ = some (.slice A n c) ∧ W.drew.cell? ⟨w.heap.size + 1 + 1, 4, none⟩ = some (.func (.func i1) #[] #[]) ∧ W.drew.cell? ⟨w.heap.size + 1 + 1, 5, none⟩ = some (.func (.func i2) #[] #[]) ∧ W.drew.cell? ⟨w.heap.size, 2, none⟩ = some (.int .i64 lt) ∧ W.drew.cell? ⟨w.heap.size, 3, none⟩ = some (.int .i64 wi) := ⟨q0, q1, q2, q3, q4, q5, f2, f3⟩
    rcases (show C = false ∨ C = true ∧ kl = true ∨ C = true ∧ kl = false by cases C <;> cases kl <;> simp) with rfl | ⟨rfl, rfl⟩ | ⟨rfl, rfl⟩
    · skip
      refine wp_region_J (fun w' => w'.cell? ⟨w.heap.size + 1 + 1, 0, none⟩ = some (.int .i64 ((q : Int) + 1)) ∧ w'.cell? ⟨w.heap.size + 1 + 1, 1, none⟩ = some (.string kn) ∧ w'.cell? ⟨w.heap.size + 1 + 1, 2, none⟩ = some (.bool kl) ∧ w'.cell? ⟨w.heap.size + 1 + 1, 3, none⟩ = some (.slice A n c) ∧ w'.cell? ⟨w.heap.size + 1 + 1, 4, none⟩ = some (.func (.func i1) #[] #[]) ∧ w'.cell? ⟨w.heap.size + 1 + 1, 5, none⟩ = some (.func (.func i2) #[] #[]) ∧ w'.cell? ⟨w.heap.size, 2, none⟩ = some (.int .i64 lt) ∧ w'.cell? ⟨w.heap.size, 3, none⟩ = some (.int .i64 wi)) (fun _ => True) (fun _ => false) (by kernel_rfl) ?_
      have hS1 := hS0
      refine wpAnyJ_take1 0 rfl (by kernel_rfl) (by kernel_rfl) rfl (by kernel_rfl) (fun _ _ _ h => h) (by rfl) hS1 (fun w' hSw => (by obtain ⟨p0, p1, p2, p3, p4, p5, p6, p7⟩ := hSw; go_simp; try (with_reducible rfl))) ?_
      try simp only [Act.put, List.getElem_toArray, List.getElem_cons_succ, List.getElem_cons_zero, List.setIfInBounds_toArray, List.set_cons_zero, List.set_cons_succ]
      refine wpAnyJ_take1 1 rfl (by kernel_rfl) (by kernel_rfl) rfl (by kernel_rfl) (fun _ _ _ h => h) (by rfl) hS1 (fun w' hSw => (by obtain ⟨p0, p1, p2, p3, p4, p5, p6, p7⟩ := hSw; go_simp; try (with_reducible rfl))) ?_
      try simp only [Act.put, List.getElem_toArray, List.getElem_cons_succ, List.getElem_cons_zero, List.setIfInBounds_toArray, List.set_cons_zero, List.set_cons_succ]
      refine wpAnyJ_take1 2 rfl (by kernel_rfl) (by kernel_rfl) rfl (by kernel_rfl) (fun _ _ _ h => h) (by rfl) hS1 (fun w' hSw => (by obtain ⟨p0, p1, p2, p3, p4, p5, p6, p7⟩ := hSw; go_simp; try (with_reducible rfl))) ?_
      try simp only [Act.put, List.getElem_toArray, List.getElem_cons_succ, List.getElem_cons_zero, List.setIfInBounds_toArray, List.set_cons_zero, List.set_cons_succ]
      refine wpAnyJ_take1 3 rfl (by kernel_rfl) (by kernel_rfl) rfl (by kernel_rfl) (fun _ _ _ h => h) (by rfl) hS1 (fun w' hSw => (by obtain ⟨p0, p1, p2, p3, p4, p5, p6, p7⟩ := hSw; go_simp; try (with_reducible rfl))) ?_
      try simp only [Act.put, List.getElem_toArray, List.getElem_cons_succ, List.getElem_cons_zero, List.setIfInBounds_toArray, List.set_cons_zero, List.set_cons_succ]
      refine wpAnyJ_take1 4 rfl (by kernel_rfl) (by kernel_rfl) rfl (by kernel_rfl) (fun _ _ _ h => h) (by rfl) hS1 (fun w' hSw => (by obtain ⟨p0, p1, p2, p3, p4, p5, p6, p7⟩ := hSw; go_simp; try (with_reducible rfl))) ?_
      try simp only [Act.put, List.getElem_toArray, List.getElem_cons_succ, List.getElem_cons_zero, List.setIfInBounds_toArray, List.set_cons_zero, List.set_cons_succ]
      refine wpAnyJ_ready [5] (by kernel_rfl) (by simp) (NextJ.cons rfl (fun K hK => ?_) NextJ.nil)
      go_simp
      refine (HC.out _ ((hBW.mono hH).drew)).mono ?_
      rintro e w5 ⟨rfl, hB5⟩
      have kF5 : Blk w5 w.heap.size _ _ := Blk.below' kF.drew hB5
      have kQ5 : Blk w5 (w.heap.size + 1 + 1) _ _ := Blk.below' kQ.drew hB5
      have kZ5 : Blk w5 (w.heap.size + 1) _ _ := Blk.below' kZ.drew hB5
      clear q0 q1 q2 q3 q4 q5 f2 f3 z0 z1 z2 z3 z4 z5 y0 y1 y2 y3 y4 y5
      have hS5 : w5.cell? ⟨w.heap.size + 1 + 1, 0, none⟩ = some (.int .i64 ((q : Int) + 1)) ∧ w5.cell? ⟨w.heap.size + 1 + 1, 1, none⟩ = some (.string kn) ∧ w5.cell? ⟨w.heap.size + 1 + 1, 2, none⟩ = some (.bool kl) ∧ w5.cell? ⟨w.heap.size + 1 + 1, 3, none⟩ = some (.slice A n c) ∧ w5.cell? ⟨w.heap.size + 1 + 1, 4, none⟩ = some (.func (.func i1) #[] #[]) ∧ w5.cell? ⟨w.heap.size + 1 + 1, 5, none⟩ = some (.func (.func i2) #[] #[]) ∧ w5.cell? ⟨w.heap.size, 2, none⟩ = some (.int .i64 lt) ∧ w5.cell? ⟨w.heap.size, 3, none⟩ = some (.int .i64 wi) := ⟨kQ5.cell 0 _ rfl, kQ5.cell 1 _ rfl, kQ5.cell 2 _ rfl, kQ5.cell 3 _ rfl, kQ5.cell 4 _ rfl, kQ5.cell 5 _ rfl, kF5.cell 2 _ rfl, kF5.cell 3 _ rfl⟩
      go_simp
      refine hK.out _ _ hS5 (fun h => absurd h (by decide)) ?_
      clear hK K
      try simp only [Act.put, List.getElem_toArray, List.getElem_cons_succ, List.getElem_cons_zero, List.setIfInBounds_toArray, List.set_cons_zero, List.set_cons_succ]
      refine wpAnyJ_take1 6 rfl (by kernel_rfl) (by kernel_rfl) rfl (by kernel_rfl) (fun _ _ _ h => h) (by rfl) hS5 (fun w' hSw => (by obtain ⟨p0, p1, p2, p3, p4, p5, p6, p7⟩ := hSw; go_simp; try (with_reducible rfl))) ?_
      try simp only [Act.put, List.getElem_toArray, List.getElem_cons_succ, List.getElem_cons_zero, List.setIfInBounds_toArray, List.set_cons_zero, List.set_cons_succ]
      refine wpAnyJ_skip 7 rfl (by kernel_rfl) (by kernel_rfl) rfl (by kernel_rfl) (fun _ _ _ h => h) (by rfl) hS5 ?_
      try simp only [Act.put, List.getElem_toArray, List.getElem_cons_succ, List.getElem_cons_zero, List.setIfInBounds_toArray, List.set_cons_zero, List.set_cons_succ]
      refine wpAnyJ_skip 8 rfl (by kernel_rfl) (by kernel_rfl) rfl (by kernel_rfl) (fun _ _ _ h => h) (by rfl) hS5 ?_
      try simp only [Act.put, List.getElem_toArray, List.getElem_cons_succ, List.getElem_cons_zero, List.setIfInBounds_toArray, List.set_cons_zero, List.set_cons_succ]
      refine wpAnyJ_skip 9 rfl (by kernel_rfl) (by kernel_rfl) rfl (by kernel_rfl) (fun _ _ _ h => h) (by rfl) hS5 ?_
      try simp only [Act.put, List.getElem_toArray, List.getElem_cons_succ, List.getElem_cons_zero, List.setIfInBounds_toArray, List.set_cons_zero, List.set_cons_succ]
      refine wpAnyJ_skip 10 rfl (by kernel_rfl) (by kernel_rfl) rfl (by kernel_rfl) (fun _ _ _ h => h) (by rfl) hS5 ?_
      try simp only [Act.put, List.getElem_toArray, List.getElem_cons_succ, List.getElem_cons_zero, List.setIfInBounds_toArray, List.set_cons_zero, List.set_cons_succ]
      refine wpAnyJ_skip 11 rfl (by kernel_rfl) (by kernel_rfl) rfl (by kernel_rfl) (fun _ _ _ h => h) (by rfl) hS5 ?_
      try simp only [Act.put, List.getElem_toArray, List.getElem_cons_succ, List.getElem_cons_zero, List.setIfInBounds_toArray, List.set_cons_zero, List.set_cons_succ]
      refine wpAnyJ_skip 12 rfl (by kernel_rfl) (by kernel_rfl) rfl (by kernel_rfl) (fun _ _ _ h => h) (by rfl) hS5 ?_
      try simp only [Act.put, List.getElem_toArray, List.getElem_cons_succ, List.getElem_cons_zero, List.setIfInBounds_toArray, List.set_cons_zero, List.set_cons_succ]
      refine wpAnyJ_skip 13 rfl (by kernel_rfl) (by kernel_rfl) rfl (by kernel_rfl) (fun _ _ _ h => h) (by rfl) hS5 ?_
      try simp only [Act.put, List.getElem_toArray, List.getElem_cons_succ, List.getElem_cons_zero, List.setIfInBounds_toArray, List.set_cons_zero, List.set_cons_succ]
      refine wpAnyJ_take1 14 rfl (by kernel_rfl) (by kernel_rfl) rfl (by kernel_rfl) (fun _ _ _ h => h) (by rfl) hS5 (fun w' hSw => (by obtain ⟨p0, p1, p2, p3, p4, p5, p6, p7⟩ := hSw; go_simp; try (with_reducible rfl))) ?_
      try simp only [Act.put, List.getElem_toArray, List.getElem_cons_succ, List.getElem_cons_zero, List.setIfInBounds_toArray, List.set_cons_zero, List.set_cons_succ]
      refine wpAnyJ_ready [15] (by kernel_rfl) (by simp) (NextJ.cons rfl (fun K hK => ?_) NextJ.nil)
      have z0 := kZ5.cell 0 _ rfl
      have z1 := kZ5.cell 1 _ rfl
      have z2 := kZ5.cell 2 _ rfl
      have z3 := kZ5.cell 3 _ rfl
      have z4 := kZ5.cell 4 _ rfl
      have z5 := kZ5.cell 5 _ rfl
      have y0 := kZ5.frozen 0
      have y1 := kZ5.frozen 1
      have y2 := kZ5.frozen 2
      have y3 := kZ5.frozen 3
      have y4 := kZ5.frozen 4
      have y5 := kZ5.frozen 5
      have zl5 := kZ5.lt
      go_simp
      have kZ9 := (((((kZ5.set_ 0 (.int .i64 ((q : Int) + 1))).set_ 1 (.string kn)).set_ 2 (.bool kl)).set_ 3 (.slice A n c)).set_ 4 (.func (.func i1) #[] #[])).set_ 5 (.func (.func i2) #[] #[])
      have kQ9 := Blk.far (p := ⟨w.heap.size + 1, 5, none⟩) (Blk.far (p := ⟨w.heap.size + 1, 4, none⟩) (Blk.far (p := ⟨w.heap.size + 1, 3, none⟩) (Blk.far (p := ⟨w.heap.size + 1, 2, none⟩) (Blk.far (p := ⟨w.heap.size + 1, 1, none⟩) (Blk.far (p := ⟨w.heap.size + 1, 0, none⟩) (kQ5) (by show _ ≠ w.heap.size + 1; omega) (.int .i64 ((q : Int) + 1))) (by show _ ≠ w.heap.size + 1; omega) (.string kn)) (by show _ ≠ w.heap.size + 1; omega) (.bool kl)) (by show _ ≠ w.heap.size + 1; omega) (.slice A n c)) (by show _ ≠ w.heap.size + 1; omega) (.func (.func i1) #[] #[])) (by show _ ≠ w.heap.size + 1; omega) (.func (.func i2) #[] #[])
      have kF9 := Blk.far (p := ⟨w.heap.size + 1, 5, none⟩) (Blk.far (p := ⟨w.heap.size + 1, 4, none⟩) (Blk.far (p := ⟨w.heap.size + 1, 3, none⟩) (Blk.far (p := ⟨w.heap.size + 1, 2, none⟩) (Blk.far (p := ⟨w.heap.size + 1, 1, none⟩) (Blk.far (p := ⟨w.heap.size + 1, 0, none⟩) (kF5) (by show _ ≠ w.heap.size + 1; omega) (.int .i64 ((q : Int) + 1))) (by show _ ≠ w.heap.size + 1; omega) (.string kn)) (by show _ ≠ w.heap.size + 1; omega) (.bool kl)) (by show _ ≠ w.heap.size + 1; omega) (.slice A n c)) (by show _ ≠ w.heap.size + 1; omega) (.func (.func i1) #[] #[])) (by show _ ≠ w.heap.size + 1; omega) (.func (.func i2) #[] #[])
      have hB9 := (Below.setCell (p := ⟨w.heap.size + 1, 5, none⟩) (Below.setCell (p := ⟨w.heap.size + 1, 4, none⟩) (Below.setCell (p := ⟨w.heap.size + 1, 3, none⟩) (Below.setCell (p := ⟨w.heap.size + 1, 2, none⟩) (Below.setCell (p := ⟨w.heap.size + 1, 1, none⟩) (Below.setCell (p := ⟨w.heap.size + 1, 0, none⟩) (Below.refl w.heap.size w5) (by show w.heap.size ≤ w.heap.size + 1; omega) (.int .i64 ((q : Int) + 1))) (by show w.heap.size ≤ w.heap.size + 1; omega) (.string kn)) (by show w.heap.size ≤ w.heap.size + 1; omega) (.bool kl)) (by show w.heap.size ≤ w.heap.size + 1; omega) (.slice A n c)) (by show w.heap.size ≤ w.heap.size + 1; omega) (.func (.func i1) #[] #[])) (by show w.heap.size ≤ w.heap.size + 1; omega) (.func (.func i2) #[] #[]))
      clear z0 z1 z2 z3 z4 z5 y0 y1 y2 y3 y4 y5
      have hS9 := (And.intro (kQ9.cell 0 (.int .i64 ((q : Int) + 1)) rfl) (And.intro (kQ9.cell 1 (.string kn) rfl) (And.intro (kQ9.cell 2 (.bool kl) rfl) (And.intro (kQ9.cell 3 (.slice A n c) rfl) (And.intro (kQ9.cell 4 (.func (.func i1) #[] #[]) rfl) (And.intro (kQ9.cell 5 (.func (.func i2) #[] #[]) rfl) (And.intro (kF9.cell 2 (.int .i64 lt) rfl) (kF9.cell 3 (.int .i64 wi) rfl))))))))
      refine hK.out _ _ hS9 (fun h => absurd h (by decide)) ?_
      clear hK K
      try simp only [Act.put, List.getElem_toArray, List.getElem_cons_succ, List.getElem_cons_zero, List.setIfInBounds_toArray, List.set_cons_zero, List.set_cons_succ]
      refine wpAnyJ_take1 16 rfl (by kernel_rfl) (by kernel_rfl) rfl (by kernel_rfl) (fun _ _ _ h => h) (by rfl) hS9 (fun w' hSw => (by obtain ⟨p0, p1, p2, p3, p4, p5, p6, p7⟩ := hSw; go_simp; try (with_reducible rfl))) ?_
      try simp only [Act.put, List.getElem_toArray, List.getElem_cons_succ, List.getElem_cons_zero, List.setIfInBounds_toArray, List.set_cons_zero, List.set_cons_succ]
      refine wpAnyJ_done (by kernel_rfl) ?_ _
      clear hS1 hS5 hS9 hS0
      go_wp2_with fail
      (try simp only [Exit.inBlock, Exit.then])
      refine kind_ret2 rfl (g := w.heap.size + 1) (x0 := .int .i64 ((q : Int) + 1)) (x1 := .string kn) (x2 := .bool kl) (x3 := .slice A n c) (x4 := .func (.func i1) #[] #[]) (x5 := .func (.func i2) #[] #[]) rfl (by simpa using kZ9) rfl (Ret.val (by simp) ?_)
      exact (hBW.drew.trans (hB5.mono hBW.size)).trans hB9
    · skip
      refine wp_region_J (fun w' => w'.cell? ⟨w.heap.size + 1 + 1, 0, none⟩ = some (.int .i64 ((q : Int) + 1)) ∧ w'.cell? ⟨w.heap.size + 1 + 1, 1, none⟩ = some (.string kn) ∧ w'.cell? ⟨w.heap.size + 1 + 1, 2, none⟩ = some (.bool true) ∧ w'.cell? ⟨w.heap.size + 1 + 1, 3, none⟩ = some (.slice A n c) ∧ w'.cell? ⟨w.heap.size + 1 + 1, 4, none⟩ = some (.func (.func i1) #[] #[]) ∧ w'.cell? ⟨w.heap.size + 1 + 1, 5, none⟩ = some (.func (.func i2) #[] #[]) ∧ w'.cell? ⟨w.heap.size, 2, none⟩ = some (.int .i64 lt) ∧ w'.cell? ⟨w.heap.size, 3, none⟩ = some (.int .i64 wi)) (fun _ => True) (fun _ => false) (by kernel_rfl) ?_
      have hS1 := hS0
      refine wpAnyJ_take1 0 rfl (by kernel_rfl) (by kernel_rfl) rfl (by kernel_rfl) (fun _ _ _ h => h) (by rfl) hS1 (fun w' hSw => (by obtain ⟨p0, p1, p2, p3, p4, p5, p6, p7⟩ := hSw; go_simp; try (with_reducible rfl))) ?_
      try simp only [Act.put, List.getElem_toArray, List.getElem_cons_succ, List.getElem_cons_zero, List.setIfInBounds_toArray, List.set_cons_zero, List.set_cons_succ]
      refine wpAnyJ_take1 1 rfl (by kernel_rfl) (by kernel_rfl) rfl (by kernel_rfl) (fun _ _ _ h => h) (by rfl) hS1 (fun w' hSw => (by obtain ⟨p0, p1, p2, p3, p4, p5, p6, p7⟩ := hSw; go_simp; try (with_reducible rfl))) ?_
      try simp only [Act.put, List.getElem_toArray, List.getElem_cons_succ, List.getElem_cons_zero, List.setIfInBounds_toArray, List.set_cons_zero, List.set_cons_succ]
      refine wpAnyJ_take1 2 rfl (by kernel_rfl) (by kernel_rfl) rfl (by kernel_rfl) (fun _ _ _ h => h) (by rfl) hS1 (fun w' hSw => (by obtain ⟨p0, p1, p2, p3, p4, p5, p6, p7⟩ := hSw; go_simp; try (with_reducible rfl))) ?_
      try simp only [Act.put, List.getElem_toArray, List.getElem_cons_succ, List.getElem_cons_zero, List.setIfInBounds_toArray, List.set_cons_zero, List.set_cons_succ]
      refine wpAnyJ_take1 3 rfl (by kernel_rfl) (by kernel_rfl) rfl (by kernel_rfl) (fun _ _ _ h => h) (by rfl) hS1 (fun w' hSw => (by obtain ⟨p0, p1, p2, p3, p4, p5, p6, p7⟩ := hSw; go_simp; try (with_reducible rfl))) ?_
      try simp only [Act.put, List.getElem_toArray, List.getElem_cons_succ, List.getElem_cons_zero, List.setIfInBounds_toArray, List.set_cons_zero, List.set_cons_succ]
      refine wpAnyJ_take1 4 rfl (by kernel_rfl) (by kernel_rfl) rfl (by kernel_rfl) (fun _ _ _ h => h) (by rfl) hS1 (fun w' hSw => (by obtain ⟨p0, p1, p2, p3, p4, p5, p6, p7⟩ := hSw; go_simp; try (with_reducible rfl))) ?_
      try simp only [Act.put, List.getElem_toArray, List.getElem_cons_succ, List.getElem_cons_zero, List.setIfInBounds_toArray, List.set_cons_zero, List.set_cons_succ]
      refine wpAnyJ_ready [5] (by kernel_rfl) (by simp) (NextJ.cons rfl (fun K hK => ?_) NextJ.nil)
      go_simp
      refine (HC.out _ ((hBW.mono hH).drew)).mono ?_
      rintro e w5 ⟨rfl, hB5⟩
      have kF5 : Blk w5 w.heap.size _ _ := Blk.below' kF.drew hB5
      have kQ5 : Blk w5 (w.heap.size + 1 + 1) _ _ := Blk.below' kQ.drew hB5
      have kZ5 : Blk w5 (w.heap.size + 1) _ _ := Blk.below' kZ.drew hB5
      clear q0 q1 q2 q3 q4 q5 f2 f3 z0 z1 z2 z3 z4 z5 y0 y1 y2 y3 y4 y5
      have hS5 : w5.cell? ⟨w.heap.size + 1 + 1, 0, none⟩ = some (.int .i64 ((q : Int) + 1)) ∧ w5.cell? ⟨w.heap.size + 1 + 1, 1, none⟩ = some (.string kn) ∧ w5.cell? ⟨w.heap.size + 1 + 1, 2, none⟩ = some (.bool true) ∧ w5.cell? ⟨w.heap.size + 1 + 1, 3, none⟩ = some (.slice A n c) ∧ w5.cell? ⟨w.heap.size + 1 + 1, 4, none⟩ = some (.func (.func i1) #[] #[]) ∧ w5.cell? ⟨w.heap.size + 1 + 1, 5, none⟩ = some (.func (.func i2) #[] #[]) ∧ w5.cell? ⟨w.heap.size, 2, none⟩ = some (.int .i64 lt) ∧ w5.cell? ⟨w.heap.size, 3, none⟩ = some (.int .i64 wi) := ⟨kQ5.cell 0 _ rfl, kQ5.cell 1 _ rfl, kQ5.cell 2 _ rfl, kQ5.cell 3 _ rfl, kQ5.cell 4 _ rfl, kQ5.cell 5 _ rfl, kF5.cell 2 _ rfl, kF5.cell 3 _ rfl⟩
      go_simp
      refine hK.out _ _ hS5 (fun h => absurd h (by decide)) ?_
      clear hK K
      try simp only [Act.put, List.getElem_toArray, List.getElem_cons_succ, List.getElem_cons_zero, List.setIfInBounds_toArray, List.set_cons_zero, List.set_cons_succ]
      refine wpAnyJ_take1 6 rfl (by kernel_rfl) (by kernel_rfl) rfl (by kernel_rfl) (fun _ _ _ h => h) (by rfl) hS5 (fun w' hSw => (by obtain ⟨p0, p1, p2, p3, p4, p5, p6, p7⟩ := hSw; go_simp; try (with_reducible rfl))) ?_
      try simp only [Act.put, List.getElem_toArray, List.getElem_cons_succ, List.getElem_cons_zero, List.setIfInBounds_toArray, List.set_cons_zero, List.set_cons_succ]
      refine wpAnyJ_take1 7 rfl (by kernel_rfl) (by kernel_rfl) rfl (by kernel_rfl) (fun _ _ _ h => h) (by rfl) hS5 (fun w' hSw => (by obtain ⟨p0, p1, p2, p3, p4, p5, p6, p7⟩ := hSw; go_simp; try (with_reducible rfl))) ?_
      try simp only [Act.put, List.getElem_toArray, List.getElem_cons_succ, List.getElem_cons_zero, List.setIfInBounds_toArray, List.set_cons_zero, List.set_cons_succ]
      refine wpAnyJ_take1 8 rfl (by kernel_rfl) (by kernel_rfl) rfl (by kernel_rfl) (fun _ _ _ h => h) (by rfl) hS5 (fun w' hSw => (by obtain ⟨p0, p1, p2, p3, p4, p5, p6, p7⟩ := hSw; go_simp; try (with_reducible rfl))) ?_
      try simp only [Act.put, List.getElem_toArray, List.getElem_cons_succ, List.getElem_cons_zero, List.setIfInBounds_toArray, List.set_cons_zero, List.set_cons_succ]
      refine wpAnyJ_take1 9 rfl (by kernel_rfl) (by kernel_rfl) rfl (by kernel_rfl) (fun _ _ _ h => h) (by rfl) hS5 (fun w' hSw => (by obtain ⟨p0, p1, p2, p3, p4, p5, p6, p7⟩ := hSw; go_simp; try (with_reducible rfl))) ?_
      try simp only [Act.put, List.getElem_toArray, List.getElem_cons_succ, List.getElem_cons_zero, List.setIfInBounds_toArray, List.set_cons_zero, List.set_cons_succ]
      refine wpAnyJ_skip 10 rfl (by kernel_rfl) (by kernel_rfl) rfl (by kernel_rfl) (fun _ _ _ h => h) (by rfl) hS5 ?_
      try simp only [Act.put, List.getElem_toArray, List.getElem_cons_succ, List.getElem_cons_zero, List.setIfInBounds_toArray, List.set_cons_zero, List.set_cons_succ]
      refine wpAnyJ_skip 11 rfl (by kernel_rfl) (by kernel_rfl) rfl (by kernel_rfl) (fun _ _ _ h => h) (by rfl) hS5 ?_
      try simp only [Act.put, List.getElem_toArray, List.getElem_cons_succ, List.getElem_cons_zero, List.setIfInBounds_toArray, List.set_cons_zero, List.set_cons_succ]
      refine wpAnyJ_skip 12 rfl (by kernel_rfl) (by kernel_rfl) rfl (by kernel_rfl) (fun _ _ _ h => h) (by rfl) hS5 ?_
      try simp only [Act.put, List.getElem_toArray, List.getElem_cons_succ, List.getElem_cons_zero, List.setIfInBounds_toArray, List.set_cons_zero, List.set_cons_succ]
      refine wpAnyJ_take1 13 rfl (by kernel_rfl) (by kernel_rfl) rfl (by kernel_rfl) (fun _ _ _ h => h) (by rfl) hS5 (fun w' hSw => (by obtain ⟨p0, p1, p2, p3, p4, p5, p6, p7⟩ := hSw; go_simp; try (with_reducible rfl))) ?_
      try simp only [Act.put, List.getElem_toArray, List.getElem_cons_succ, List.getElem_cons_zero, List.setIfInBounds_toArray, List.set_cons_zero, List.set_cons_succ]
      refine wpAnyJ_take1 14 rfl (by kernel_rfl) (by kernel_rfl) rfl (by kernel_rfl) (fun _ _ _ h => h) (by rfl) hS5 (fun w' hSw => (by obtain ⟨p0, p1, p2, p3, p4, p5, p6, p7⟩ := hSw; go_simp; try (with_reducible rfl))) ?_
      try simp only [Act.put, List.getElem_toArray, List.getElem_cons_succ, List.getElem_cons_zero, List.setIfInBounds_toArray, List.set_cons_zero, List.set_cons_succ]
      refine wpAnyJ_ready [15] (by kernel_rfl) (by simp) (NextJ.cons rfl (fun K hK => ?_) NextJ.nil)
      have z0 := kZ5.cell 0 _ rfl
      have z1 := kZ5.cell 1 _ rfl
      have z2 := kZ5.cell 2 _ rfl
      have z3 := kZ5.cell 3 _ rfl
      have z4 := kZ5.cell 4 _ rfl
      have z5 := kZ5.cell 5 _ rfl
      have y0 := kZ5.frozen 0
      have y1 := kZ5.frozen 1
      have y2 := kZ5.frozen 2
      have y3 := kZ5.frozen 3
      have y4 := kZ5.frozen 4
      have y5 := kZ5.frozen 5
      have zl5 := kZ5.lt
      go_simp
      have kZ9 := (((((kZ5.set_ 0 (.int .i64 ((q : Int) + 1))).set_ 1 (.string kn)).set_ 2 (.bool true)).set_ 3 (.slice A n c)).set_ 4 (.func (.func i1) #[] #[])).set_ 5 (.func (.func i2) #[] #[])
      have kQ9 := Blk.far (p := ⟨w.heap.size + 1, 5, none⟩) (Blk.far (p := ⟨w.heap.size + 1, 4, none⟩) (Blk.far (p := ⟨w.heap.size + 1, 3, none⟩) (Blk.far (p := ⟨w.heap.size + 1, 2, none⟩) (Blk.far (p := ⟨w.heap.size + 1, 1, none⟩) (Blk.far (p := ⟨w.heap.size + 1, 0, none⟩) (kQ5) (by show _ ≠ w.heap.size + 1; omega) (.int .i64 ((q : Int) + 1))) (by show _ ≠ w.heap.size + 1; omega) (.string kn)) (by show _ ≠ w.heap.size + 1; omega) (.bool true)) (by show _ ≠ w.heap.size + 1; omega) (.slice A n c)) (by show _ ≠ w.heap.size + 1; omega) (.func (.func i1) #[] #[])) (by show _ ≠ w.heap.size + 1; omega) (.func (.func i2) #[] #[])
      have kF9 := Blk.far (p := ⟨w.heap.size + 1, 5, none⟩) (Blk.far (p := ⟨w.heap.size + 1, 4, none⟩) (Blk.far (p := ⟨w.heap.size + 1, 3, none⟩) (Blk.far (p := ⟨w.heap.size + 1, 2, none⟩) (Blk.far (p := ⟨w.heap.size + 1, 1, none⟩) (Blk.far (p := ⟨w.heap.size + 1, 0, none⟩) (kF5) (by show _ ≠ w.heap.size + 1; omega) (.int .i64 ((q : Int) + 1))) (by show _ ≠ w.heap.size + 1; omega) (.string kn)) (by show _ ≠ w.heap.size + 1; omega) (.bool true)) (by show _ ≠ w.heap.size + 1; omega) (.slice A n c)) (by show _ ≠ w.heap.size + 1; omega) (.func (.func i1) #[] #[])) (by show _ ≠ w.heap.size + 1; omega) (.func (.func i2) #[] #[])
      have hB9 := (Below.setCell (p := ⟨w.heap.size + 1, 5, none⟩) (Below.setCell (p := ⟨w.heap.size + 1, 4, none⟩) (Below.setCell (p := ⟨w.heap.size + 1, 3, none⟩) (Below.setCell (p := ⟨w.heap.size + 1, 2, none⟩) (Below.setCell (p := ⟨w.heap.size + 1, 1, none⟩) (Below.setCell (p := ⟨w.heap.size + 1, 0, none⟩) (Below.refl w.heap.size w5) (by show w.heap.size ≤ w.heap.size + 1; omega) (.int .i64 ((q : Int) + 1))) (by show w.heap.size ≤ w.heap.size + 1; omega) (.string kn)) (by show w.heap.size ≤ w.heap.size + 1; omega) (.bool true)) (by show w.heap.size ≤ w.heap.size + 1; omega) (.slice A n c)) (by show w.heap.size ≤ w.heap.size + 1; omega) (.func (.func i1) #[] #[])) (by show w.heap.size ≤ w.heap.size + 1; omega) (.func (.func i2) #[] #[]))
      clear z0 z1 z2 z3 z4 z5 y0 y1 y2 y3 y4 y5
      have hS9 := (And.intro (kQ9.cell 0 (.int .i64 ((q : Int) + 1)) rfl) (And.intro (kQ9.cell 1 (.string kn) rfl) (And.intro (kQ9.cell 2 (.bool true) rfl) (And.intro (kQ9.cell 3 (.slice A n c) rfl) (And.intro (kQ9.cell 4 (.func (.func i1) #[] #[]) rfl) (And.intro (kQ9.cell 5 (.func (.func i2) #[] #[]) rfl) (And.intro (kF9.cell 2 (.int .i64 lt) rfl) (kF9.cell 3 (.int .i64 wi) rfl))))))))
      refine hK.out _ _ hS9 (fun h => absurd h (by decide)) ?_
      clear hK K
      try simp only [Act.put, List.getElem_toArray, List.getElem_cons_succ, List.getElem_cons_zero, List.setIfInBounds_toArray, List.set_cons_zero, List.set_cons_succ]
      refine wpAnyJ_take1 16 rfl (by kernel_rfl) (by kernel_rfl) rfl (by kernel_rfl) (fun _ _ _ h => h) (by rfl) hS9 (fun w' hSw => (by obtain ⟨p0, p1, p2, p3, p4, p5, p6, p7⟩ := hSw; go_simp; try (with_reducible rfl))) ?_
      try simp only [Act.put, List.getElem_toArray, List.getElem_cons_succ, List.getElem_cons_zero, List.setIfInBounds_toArray, List.set_cons_zero, List.set_cons_succ]
      refine wpAnyJ_done (by kernel_rfl) ?_ _
      clear hS1 hS5 hS9 hS0
      go_wp2_with fail
      (try simp only [Exit.inBlock, Exit.then])
      refine kind_ret2 rfl (g := w.heap.size + 1) (x0 := .int .i64 ((q : Int) + 1)) (x1 := .string kn) (x2 := .bool true) (x3 := .slice A n c) (x4 := .func (.func i1) #[] #[]) (x5 := .func (.func i2) #[] #[]) rfl (by simpa using kZ9) rfl (Ret.val (by simp) ?_)
      exact (hBW.drew.trans (hB5.mono hBW.size)).trans hB9
    · skip
      refine wp_region_J (fun w' => w'.cell? ⟨w.heap.size + 1 + 1, 0, none⟩ = some (.int .i64 ((q : Int) + 1)) ∧ w'.cell? ⟨w.heap.size + 1 + 1, 1, none⟩ = some (.string kn) ∧ w'.cell? ⟨w.heap.size + 1 + 1, 2, none⟩ = some (.bool false) ∧ w'.cell? ⟨w.heap.size + 1 + 1, 3, none⟩ = some (.slice A n c) ∧ w'.cell? ⟨w.heap.size + 1 + 1, 4, none⟩ = some (.func (.func i1) #[] #[]) ∧ w'.cell? ⟨w.heap.size + 1 + 1, 5, none⟩ = some (.func (.func i2) #[] #[]) ∧ w'.cell? ⟨w.heap.size, 2, none⟩ = some (.int .i64 lt) ∧ w'.cell? ⟨w.heap.size, 3, none⟩ = some (.int .i64 wi)) (fun _ => True) (fun _ => false) (by kernel_rfl) ?_
      have hS1 := hS0
      refine wpAnyJ_take1 0 rfl (by kernel_rfl) (by kernel_rfl) rfl (by kernel_rfl) (fun _ _ _ h => h) (by rfl) hS1 (fun w' hSw => (by obtain ⟨p0, p1, p2, p3, p4, p5, p6, p7⟩ := hSw; go_simp; try (with_reducible rfl))) ?_
      try simp only [Act.put, List.getElem_toArray, List.getElem_cons_succ, List.getElem_cons_zero, List.setIfInBounds_toArray, List.set_cons_zero, List.set_cons_succ]
      refine wpAnyJ_take1 1 rfl (by kernel_rfl) (by kernel_rfl) rfl (by kernel_rfl) (fun _ _ _ h => h) (by rfl) hS1 (fun w' hSw => (by obtain ⟨p0, p1, p2, p3, p4, p5, p6, p7⟩ := hSw; go_simp; try (with_reducible rfl))) ?_
      try simp only [Act.put, List.getElem_toArray, List.getElem_cons_succ, List.getElem_cons_zero, List.setIfInBounds_toArray, List.set_cons_zero, List.set_cons_succ]
      refine wpAnyJ_take1 2 rfl (by kernel_rfl) (by kernel_rfl) rfl (by kernel_rfl) (fun _ _ _ h => h) (by rfl) hS1 (fun w' hSw => (by obtain ⟨p0, p1, p2, p3, p4, p5, p6, p7⟩ := hSw; go_simp; try (with_reducible rfl))) ?_
      try simp only [Act.put, List.getElem_toArray, List.getElem_cons_succ, List.getElem_cons_zero, List.setIfInBounds_toArray, List.set_cons_zero, List.set_cons_succ]
      refine wpAnyJ_take1 3 rfl (by kernel_rfl) (by kernel_rfl) rfl (by kernel_rfl) (fun _ _ _ h => h) (by rfl) hS1 (fun w' hSw => (by obtain ⟨p0, p1, p2, p3, p4, p5, p6, p7⟩ := hSw; go_simp; try (with_reducible rfl))) ?_
      try simp only [Act.put, List.getElem_toArray, List.getElem_cons_succ, List.getElem_cons_zero, List.setIfInBounds_toArray, List.set_cons_zero, List.set_cons_succ]
      refine wpAnyJ_take1 4 rfl (by kernel_rfl) (by kernel_rfl) rfl (by kernel_rfl) (fun _ _ _ h => h) (by rfl) hS1 (fun w' hSw => (by obtain ⟨p0, p1, p2, p3, p4, p5, p6, p7⟩ := hSw; go_simp; try (with_reducible rfl))) ?_
      try simp only [Act.put, List.getElem_toArray, List.getElem_cons_succ, List.getElem_cons_zero, List.setIfInBounds_toArray, List.set_cons_zero, List.set_cons_succ]
      refine wpAnyJ_ready [5] (by kernel_rfl) (by simp) (NextJ.cons rfl (fun K hK => ?_) NextJ.nil)
      go_simp
      refine (HC.out _ ((hBW.mono hH).drew)).mono ?_
      rintro e w5 ⟨rfl, hB5⟩
      have kF5 : Blk w5 w.heap.size _ _ := Blk.below' kF.drew hB5
      have kQ5 : Blk w5 (w.heap.size + 1 + 1) _ _ := Blk.below' kQ.drew hB5
      have kZ5 : Blk w5 (w.heap.size + 1) _ _ := Blk.below' kZ.drew hB5
      clear q0 q1 q2 q3 q4 q5 f2 f3 z0 z1 z2 z3 z4 z5 y0 y1 y2 y3 y4 y5
      have hS5 : w5.cell? ⟨w.heap.size + 1 + 1, 0, none⟩ = some (.int .i64 ((q : Int) + 1)) ∧ w5.cell? ⟨w.heap.size + 1 + 1, 1, none⟩ = some (.string kn) ∧ w5.cell? ⟨w.heap.size + 1 + 1, 2, none⟩ = some (.bool false) ∧ w5.cell? ⟨w.heap.size + 1 + 1, 3, none⟩ = some (.slice A n c) ∧ w5.cell? ⟨w.heap.size + 1 + 1, 4, none⟩ = some (.func (.func i1) #[] #[]) ∧ w5.cell? ⟨w.heap.size + 1 + 1, 5, none⟩ = some (.func (.func i2) #[] #[]) ∧ w5.cell? ⟨w.heap.size, 2, none⟩ = some (.int .i64 lt) ∧ w5.cell? ⟨w.heap.size, 3, none⟩ = some (.int .i64 wi) := ⟨kQ5.cell 0 _ rfl, kQ5.cell 1 _ rfl, kQ5.cell 2 _ rfl, kQ5.cell 3 _ rfl, kQ5.cell 4 _ rfl, kQ5.cell 5 _ rfl, kF5.cell 2 _ rfl, kF5.cell 3 _ rfl⟩
      go_simp
      refine hK.out _ _ hS5 (fun h => absurd h (by decide)) ?_
      clear hK K
      try simp only [Act.put, List.getElem_toArray, List.getElem_cons_succ, List.getElem_cons_zero, List.setIfInBounds_toArray, List.set_cons_zero, List.set_cons_succ]
      refine wpAnyJ_take1 6 rfl (by kernel_rfl) (by kernel_rfl) rfl (by kernel_rfl) (fun _ _ _ h => h) (by rfl) hS5 (fun w' hSw => (by obtain ⟨p0, p1, p2, p3, p4, p5, p6, p7⟩ := hSw; go_simp; try (with_reducible rfl))) ?_
      try simp only [Act.put, List.getElem_toArray, List.getElem_cons_succ, List.getElem_cons_zero, List.setIfInBounds_toArray, List.set_cons_zero, List.set_cons_succ]
      refine wpAnyJ_take1 7 rfl (by kernel_rfl) (by kernel_rfl) rfl (by kernel_rfl) (fun _ _ _ h => h) (by rfl) hS5 (fun w' hSw => (by obtain ⟨p0, p1, p2, p3, p4, p5, p6, p7⟩ := hSw; go_simp; try (with_reducible rfl))) ?_
      try simp only [Act.put, List.getElem_toArray, List.getElem_cons_succ, List.getElem_cons_zero, List.setIfInBounds_toArray, List.set_cons_zero, List.set_cons_succ]
      refine wpAnyJ_take1 8 rfl (by kernel_rfl) (by kernel_rfl) rfl (by kernel_rfl) (fun _ _ _ h => h) (by rfl) hS5 (fun w' hSw => (by obtain ⟨p0, p1, p2, p3, p4, p5, p6, p7⟩ := hSw; go_simp; try (with_reducible rfl))) ?_
      try simp only [Act.put, List.getElem_toArray, List.getElem_cons_succ, List.getElem_cons_zero, List.setIfInBounds_toArray, List.set_cons_zero, List.set_cons_succ]
      refine wpAnyJ_take1 9 rfl (by kernel_rfl) (by kernel_rfl) rfl (by kernel_rfl) (fun _ _ _ h => h) (by rfl) hS5 (fun w' hSw => (by obtain ⟨p0, p1, p2, p3, p4, p5, p6, p7⟩ := hSw; go_simp; try (with_reducible rfl))) ?_
      try simp only [Act.put, List.getElem_toArray, List.getElem_cons_succ, List.getElem_cons_zero, List.setIfInBounds_toArray, List.set_cons_zero, List.set_cons_succ]
      refine wpAnyJ_take1 10 rfl (by kernel_rfl) (by kernel_rfl) rfl (by kernel_rfl) (fun _ _ _ h => h) (by rfl) hS5 (fun w' hSw => (by obtain ⟨p0, p1, p2, p3, p4, p5, p6, p7⟩ := hSw; go_simp; try (with_reducible rfl))) ?_
      try simp only [Act.put, List.getElem_toArray, List.getElem_cons_succ, List.getElem_cons_zero, List.setIfInBounds_toArray, List.set_cons_zero, List.set_cons_succ]
      refine wpAnyJ_take1 11 rfl (by kernel_rfl) (by kernel_rfl) rfl (by kernel_rfl) (fun _ _ _ h => h) (by rfl) hS5 (fun w' hSw => (by obtain ⟨p0, p1, p2, p3, p4, p5, p6, p7⟩ := hSw; go_simp; try (with_reducible rfl))) ?_
      try simp only [Act.put, List.getElem_toArray, List.getElem_cons_succ, List.getElem_cons_zero, List.setIfInBounds_toArray, List.set_cons_zero, List.set_cons_succ]
      refine wpAnyJ_take1 12 rfl (by kernel_rfl) (by kernel_rfl) rfl (by kernel_rfl) (fun _ _ _ h => h) (by rfl) hS5 (fun w' hSw => (by obtain ⟨p0, p1, p2, p3, p4, p5, p6, p7⟩ := hSw; go_simp; try (with_reducible rfl))) ?_
      try simp only [Act.put, List.getElem_toArray, List.getElem_cons_succ, List.getElem_cons_zero, List.setIfInBounds_toArray, List.set_cons_zero, List.set_cons_succ]
      refine wpAnyJ_take1 13 rfl (by kernel_rfl) (by kernel_rfl) rfl (by kernel_rfl) (fun _ _ _ h => h) (by rfl) hS5 (fun w' hSw => (by obtain ⟨p0, p1, p2, p3, p4, p5, p6, p7⟩ := hSw; go_simp; try (with_reducible rfl))) ?_
      try simp only [Act.put, List.getElem_toArray, List.getElem_cons_succ, List.getElem_cons_zero, List.setIfInBounds_toArray, List.set_cons_zero, List.set_cons_succ]
      refine wpAnyJ_take1 14 rfl (by kernel_rfl) (by kernel_rfl) rfl (by kernel_rfl) (fun _ _ _ h => h) (by rfl) hS5 (fun w' hSw => (by obtain ⟨p0, p1, p2, p3, p4, p5, p6, p7⟩ := hSw; go_simp; try (with_reducible rfl))) ?_
      try simp only [Act.put, List.getElem_toArray, List.getElem_cons_succ, List.getElem_cons_zero, List.setIfInBounds_toArray, List.set_cons_zero, List.set_cons_succ]
      refine wpAnyJ_ready [15] (by kernel_rfl) (by simp) (NextJ.cons rfl (fun K hK => ?_) NextJ.nil)
      have z0 := kZ5.cell 0 _ rfl
      have z1 := kZ5.cell 1 _ rfl
      have z2 := kZ5.cell 2 _ rfl
      have z3 := kZ5.cell 3 _ rfl
      have z4 := kZ5.cell 4 _ rfl
      have z5 := kZ5.cell 5 _ rfl
      have y0 := kZ5.frozen 0
      have y1 := kZ5.frozen 1
      have y2 := kZ5.frozen 2
      have y3 := kZ5.frozen 3
      have y4 := kZ5.frozen 4
      have y5 := kZ5.frozen 5
      have zl5 := kZ5.lt
      go_simp
      have kZ9 := (((((kZ5.set_ 0 (.int .i64 ((q : Int) + 1))).set_ 1 (.string kn)).set_ 2 (.bool false)).set_ 3 (.slice A n c)).set_ 4 (.func (.func i1) #[] #[])).set_ 5 (.func (.func i2) #[] #[])
      have kQ9 := Blk.far (p := ⟨w.heap.size + 1, 5, none⟩) (Blk.far (p := ⟨w.heap.size + 1, 4, none⟩) (Blk.far (p := ⟨w.heap.size + 1, 3, none⟩) (Blk.far (p := ⟨w.heap.size + 1, 2, none⟩) (Blk.far (p := ⟨w.heap.size + 1, 1, none⟩) (Blk.far (p := ⟨w.heap.size + 1, 0, none⟩) (kQ5) (by show _ ≠ w.heap.size + 1; omega) (.int .i64 ((q : Int) + 1))) (by show _ ≠ w.heap.size + 1; omega) (.string kn)) (by show _ ≠ w.heap.size + 1; omega) (.bool false)) (by show _ ≠ w.heap.size + 1; omega) (.slice A n c)) (by show _ ≠ w.heap.size + 1; omega) (.func (.func i1) #[] #[])) (by show _ ≠ w.heap.size + 1; omega) (.func (.func i2) #[] #[])
      have kF9 := Blk.far (p := ⟨w.heap.size + 1, 5, none⟩) (Blk.far (p := ⟨w.heap.size + 1, 4, none⟩) (Blk.far (p := ⟨w.heap.size + 1, 3, none⟩) (Blk.far (p := ⟨w.heap.size + 1, 2, none⟩) (Blk.far (p := ⟨w.heap.size + 1, 1, none⟩) (Blk.far (p := ⟨w.heap.size + 1, 0, none⟩) (kF5) (by show _ ≠ w.heap.size + 1; omega) (.int .i64 ((q : Int) + 1))) (by show _ ≠ w.heap.size + 1; omega) (.string kn)) (by show _ ≠ w.heap.size + 1; omega) (.bool false)) (by show _ ≠ w.heap.size + 1; omega) (.slice A n c)) (by show _ ≠ w.heap.size + 1; omega) (.func (.func i1) #[] #[])) (by show _ ≠ w.heap.size + 1; omega) (.func (.func i2) #[] #[])
      have hB9 := (Below.setCell (p := ⟨w.heap.size + 1, 5, none⟩) (Below.setCell (p := ⟨w.heap.size + 1, 4, none⟩) (Below.setCell (p := ⟨w.heap.size + 1, 3, none⟩) (Below.setCell (p := ⟨w.heap.size + 1, 2, none⟩) (Below.setCell (p := ⟨w.heap.size + 1, 1, none⟩) (Below.setCell (p := ⟨w.heap.size + 1, 0, none⟩) (Below.refl w.heap.size w5) (by show w.heap.size ≤ w.heap.size + 1; omega) (.int .i64 ((q : Int) + 1))) (by show w.heap.size ≤ w.heap.size + 1; omega) (.string kn)) (by show w.heap.size ≤ w.heap.size + 1; omega) (.bool false)) (by show w.heap.size ≤ w.heap.size + 1; omega) (.slice A n c)) (by show w.heap.size ≤ w.heap.size + 1; omega) (.func (.func i1) #[] #[])) (by show w.heap.size ≤ w.heap.size + 1; omega) (.func (.func i2) #[] #[]))
      clear z0 z1 z2 z3 z4 z5 y0 y1 y2 y3 y4 y5
      have hS9 := (And.intro (kQ9.cell 0 (.int .i64 ((q : Int) + 1)) rfl) (And.intro (kQ9.cell 1 (.string kn) rfl) (And.intro (kQ9.cell 2 (.bool false) rfl) (And.intro (kQ9.cell 3 (.slice A n c) rfl) (And.intro (kQ9.cell 4 (.func (.func i1) #[] #[]) rfl) (And.intro (kQ9.cell 5 (.func (.func i2) #[] #[]) rfl) (And.intro (kF9.cell 2 (.int .i64 lt) rfl) (kF9.cell 3 (.int .i64 wi) rfl))))))))
      refine hK.out _ _ hS9 (fun h => absurd h (by decide)) ?_
      clear hK K
      try simp only [Act.put, List.getElem_toArray, List.getElem_cons_succ, List.getElem_cons_zero, List.setIfInBounds_toArray, List.set_cons_zero, List.set_cons_succ]
      refine wpAnyJ_take1 16 rfl (by kernel_rfl) (by kernel_rfl) rfl (by kernel_rfl) (fun _ _ _ h => h) (by rfl) hS9 (fun w' hSw => (by obtain ⟨p0, p1, p2, p3, p4, p5, p6, p7⟩ := hSw; go_simp; try (with_reducible rfl))) ?_
      try simp only [Act.put, List.getElem_toArray, List.getElem_cons_succ, List.getElem_cons_zero, List.setIfInBounds_toArray, List.set_cons_zero, List.set_cons_succ]
      refine wpAnyJ_done (by kernel_rfl) ?_ _
      clear hS1 hS5 hS9 hS0
      go_wp2_with fail
      (try simp only [Exit.inBlock, Exit.then])
      refine kind_ret2 rfl (g := w.heap.size + 1) (x0 := .int .i64 ((q : Int) + 1)) (x1 := .string kn) (x2 := .bool false) (x3 := .slice A n c) (x4 := .func (.func i1) #[] #[]) (x5 := .func (.func i2) #[] #[]) rfl (by simpa using kZ9) rfl (Ret.val (by simp) ?_)
      exact (hBW.drew.trans (hB5.mono hBW.size)).trans hB9
  · have hs := Lib.hid (shapedF_out hin)
    have hk : kcell K f.k = [.int .i64 0, .string ⟨#[]⟩, .bool false, .slice none 0 0, .nilFunc, .nilFunc] := by unfold kcell; rw [if_neg hin]
    rw [hk, hs.out]
    obtain ⟨k, st, lt, wi⟩ := f
    simp only [Flt.enc] at hin ⊢
    clear hk hs
    rcases (show k < 1 ∨ (¬ k < 1 ∧ 6 < k) by omega) with h1 | ⟨h1, h2⟩
    all_goals
      go_enter Try.func27, Try.ntmps27
      go_wp2_with fail
      (try simp only [Exit.inBlock, Exit.then])
      refine kind_ret2 rfl (g := w.heap.size + 1) (x0 := .int .i64 0) (x1 := .string ⟨#[]⟩) (x2 := .bool false) (x3 := .slice none 0 0) (x4 := .nilFunc) (x5 := .nilFunc) rfl ?_ rfl (Ret.val rfl (by (repeat' first | exact Below.refl _ _ | apply Below.drew | (refine Below.setCells ?_ _ _ ?_) | (refine Below.setCell ?_ ?_ _) | (refine Below.alloc ?_ ?_ _) | (simp; done) | (simp; omega))))
      have := Blk.new (w.alloc (.cells #[.int .i64 k, .int .i64 st, .int .i64 lt, .int .i64 wi] 24)) 72 #[.int .i64 0, .string ⟨#[]⟩, .bool false, .slice none 0 0, .nilFunc, .nilFunc]
      rw [World.size_alloc] at this; exact this
end Go.Proofs.Ytfnklchhhojimaa
