/- torchonref15: planner: window, free, with, fewest. -/
import Derived.Test.YtogkgoabonbkkaaSame5
set_option linter.unusedSimpArgs false
set_option linter.unusedVariables false
namespace Go.Proofs.Ytogkgoabonbkkaa
open Go Go.RowKit Tor

theorem or_add : ∀ (d : Fin 1024) (i : Fin 10), d.1.testBit i.1 = false → d.1 ||| 2 ^ i.1 = d.1 + 2 ^ i.1 := by decide +kernel
theorem or_add' {d i : Nat} (hd : d < 1024) (hi : i < 10) (h : d.testBit i = false) : d + 2 ^ i = d ||| 2 ^ i := (or_add ⟨d, hd⟩ ⟨i, hi⟩ h).symm
theorem bit_mod (d i : Nat) : ((d : Int) / 2 ^ i).tmod 2 = if d.testBit i then 1 else 0 := by
  have e : (d : Int) / 2 ^ i = ((d / 2 ^ i : Nat) : Int) := by
    rw [show ((2 : Int) ^ i) = ((2 ^ i : Nat) : Int) from by simp]
    exact (Int.natCast_ediv d (2 ^ i)).symm
  rw [e]
  have e2 : (((d / 2 ^ i : Nat) : Int)).tmod 2 = ((d / 2 ^ i % 2 : Nat) : Int) := rfl
  rw [e2, Nat.testBit_eq_decide_div_mod_eq]
  by_cases h : d / 2 ^ i % 2 = 1
  · simp [h]
  · have : d / 2 ^ i % 2 = 0 := by omega
    simp [this]
theorem bit1 (d i : Nat) : (((d : Int) / 2 ^ i).tmod 2 == 1) = d.testBit i := by
  rw [bit_mod]; cases d.testBit i <;> rfl
theorem bit0 (d i : Nat) : (((d : Int) / 2 ^ i).tmod 2 == 0) = !d.testBit i := by
  rw [bit_mod]; cases d.testBit i <;> rfl
/-- the numbers of the bits -/
def bitsOf (n d : Nat) : List Nat := (List.range n).filter fun i => d.testBit i
theorem bits_of (n d : Nat) : Bits n d (bitsOf n d) := fun i hi => by
  unfold bitsOf
  rw [Bool.eq_iff_iff]
  simp [hi]

/-- the planner as it lies in memory -/
def PlanR (w : World) (pb : Nat) (p s : Int) (A : Option Addr) (l : List Tri) (c : Nat) (v : Value) : Prop := Blk w pb 85 #[.int .i64 p, .slice A l.length c, .int .i64 s, v]

set_option maxRecDepth 100000 in
set_option maxHeartbeats 1000000 in
theorem rwindow_any (p s : Int) (A : Option Addr) (l : List Tri) (c : Nat) (v : Value) (pb i : Nat) (w : World) (H : Nat) (hP : PlanR w pb p s A l c v) (hr : RdT w H A l) (hH : H ≤ w.heap.size) (hi : i < l.length)
    (b1 : 2 ≤ s) (b2 : s ≤ p) (b3 : p ≤ 24) (b4 : 0 ≤ l[i].b) (b5 : l[i].b ≤ p - 2) :
    Calls Try.prog 75 #[.pointer (some ⟨pb, 0, none⟩), .int .i64 i] w (Ret (.tuple #[.int .i64 (wlo s l[i]), .int .i64 (whi p s l[i])]) w) := by
  have c0 := hP.cell 0 _ rfl
  have c1 := hP.cell 1 _ rfl
  have c2 := hP.cell 2 _ rfl
  have pl := Blk.lt hP
  obtain ⟨b, o, rfl, hb0, h0, h1, h2⟩ := hr.tri hi
  have bl := lt_of_cell h0
  have k0 : (0 : Int) ≤ (i : Int) := by omega
  have k1 : (i : Int) < (l.length : Int) := by omega
  have e1 : wlo s l[i] = max 0 (l[i].b + 2 - s) := rfl
  have e2 : whi p s l[i] = min l[i].b (p - s) := rfl
  rw [e1, e2]
  clear e1 e2
  go_enter Try.func75, Try.ntmps75
  go_wp2_with fail
  go_quiet (fail)
  go_wp2_with fail
  all_goals
    go_ret2
    refine ⟨?_, (Below.refl _ _).drewN _⟩
    simp
    try omega

set_option maxRecDepth 100000 in
set_option maxHeartbeats 1000000 in
theorem rfree_any (p s : Int) (A : Option Addr) (l : List Tri) (c : Nat) (v : Value) (pb i d : Nat) (w : World) (H : Nat) (hP : PlanR w pb p s A l c v) (hr : RdT w H A l) (hH : H ≤ w.heap.size) (hi : i < l.length) (hl : l.length ≤ 10) (hd : d < 1024)
    (hb : ∀ (k : Nat) (hk : k < l.length), 0 ≤ l[k].b ∧ l[k].b ≤ 100) :
    Calls Try.prog 52 #[.pointer (some ⟨pb, 0, none⟩), .int .i64 d, .int .i64 i] w (Ret (.bool (rdyB l (bitsOf l.length d) i)) w) := by
  have i2 : (i : Int) ≤ 64 := by omega
  have i3 : (0 : Int) ≤ (i : Int) := by omega
  have HB := Lib.hid hb
  clear hb
  cases hbit : d.testBit i
  · have hg := bit1 d i
    rw [hbit] at hg
    have HBIT := Lib.hid hbit
    have hBits := bits_of l.length d
    have HBS := Lib.hid hBits
    clear hbit hBits
    go_enter Try.func52, Try.ntmps52
    go_wp2_with fail
    clear hg
    go_loopw [7] (fun kv wr => ∃ (j : Nat), j ≤ i ∧ kv = .int .i64 j ∧ Hid (∀ q, q < j → ((bitsOf l.length d).contains q || !touchAt l i q) = true) ∧ Below w.heap.size w wr) (fun kv _ => i - (intOf kv).toNat)
    case atStart => exact ⟨0, Nat.zero_le _, rfl, fun q hq => by omega, Below.refl _ _⟩
    case round =>
      obtain ⟨j, hj, rfl, hno, hB⟩ := hrel
      have hP2 : PlanR wr pb p s A l c v := Blk.below' hP hB
      have c0 := hP2.cell 0 _ rfl
      have c1 := hP2.cell 1 _ rfl
      have pl := Blk.lt hP2
      have hrr := hr.below' hB hH
      by_cases hji : j < i
      · have hjl : j < l.length := by omega
        obtain ⟨b, o, hA, hb0, h0, h1, h2⟩ := hrr.tri hjl
        subst hA
        obtain ⟨_, g0, g1, g2⟩ := hrr.triAt hi
        have bl := lt_of_cell h0
        have x1 := HB.out j hjl
        have x2 := HB.out i hi
        have k0 : (0 : Int) ≤ (j : Int) := by omega
        have k1 : (j : Int) < (l.length : Int) := by omega
        have k2 : (j : Int) < (i : Int) := by omega
        have k3 : (i : Int) < (l.length : Int) := by omega
        have k4 : (j : Int) ≤ 64 := by omega
        have hTA : Hid (touchAt l i j = touchB l[j].b l[i].b) := by rw [Hid, touchAt, xAt_of hjl, xAt_of hi]
        have hc : (bitsOf l.length d).contains j = d.testBit j := (HBS.out j hjl).symm
        have HC := Lib.hid hc
        have hg := bit0 d j
        clear hc
        cases hbj : d.testBit j
        · have HBJ := Lib.hid hbj
          rw [hbj] at hg
          clear hbj
          cases ht : touchB l[j].b l[i].b
          · have HT := Lib.hid ht
            clear ht
            go_wp2_with fail
            refine wp_region_ex (by kernel_rfl) (by kernel_rfl) ?_
            repeat (go_big_quiet_step (first
              | (go_at_call 74; refine (touch_ex l[j] l[i] _ _ (by omega) (by omega) (by omega) (by omega)).mono ?_; rintro e w' ⟨rfl, hg⟩; rw [HT.out]; exact ⟨rfl, hg⟩)
              | fail))
            refine wpQuiet_nil ?_
            intro _ hw'
            obtain ⟨g, hw''⟩ := hw'
            subst hw''
            have hqq := g.h
            go_wp2_with fail
            go_roundw
            case rel =>
              refine ⟨j + 1, by omega, by go_num, fun q hq => ?_, hB.trans (hqq.mono hB.size)⟩
              rcases Nat.lt_or_ge q j with h | h
              · exact hno.out q h
              · obtain rfl : q = j := by omega
                rw [hTA.out, HT.out]; simp
            case measure => simp [intOf]; omega
          · have HT := Lib.hid ht
            clear ht
            go_wp2_with fail
            refine wp_region_ex (by kernel_rfl) (by kernel_rfl) ?_
            repeat (go_big_quiet_step (first
              | (go_at_call 74; refine (touch_ex l[j] l[i] _ _ (by omega) (by omega) (by omega) (by omega)).mono ?_; rintro e w' ⟨rfl, hg⟩; rw [HT.out]; exact ⟨rfl, hg⟩)
              | fail))
            refine wpQuiet_nil ?_
            intro _ hw'
            obtain ⟨g, hw''⟩ := hw'
            subst hw''
            have hqq := g.h
            go_wp2_with fail
            go_ret
            refine Ret.bool ?_ (hB.trans (hqq.mono hB.size))
            symm
            unfold rdyB
            rw [Bool.and_eq_false_iff]
            left
            rw [List.all_eq_false]
            exact ⟨j, by simpa using hji, by rw [HC.out, HBJ.out, hTA.out, HT.out]; simp⟩
        · have HBJ := Lib.hid hbj
          rw [hbj] at hg
          clear hbj
          go_wp2_with fail
          refine wp_region_ex (by kernel_rfl) (by kernel_rfl) ?_
          repeat (go_big_quiet_step (fail))
          refine wpQuiet_nil ?_
          intro _ hw'
          obtain ⟨g, hw''⟩ := hw'
          subst hw''
          have hqq := g.h
          go_wp2_with fail
          go_roundw
          case rel =>
            refine ⟨j + 1, by omega, by go_num, fun q hq => ?_, hB.trans (hqq.mono hB.size)⟩
            rcases Nat.lt_or_ge q j with h | h
            · exact hno.out q h
            · obtain rfl : q = j := by omega
              rw [HC.out, HBJ.out]; rfl
          case measure => simp [intOf]; omega
      · have e1 : j = i := by omega
        have k2 : ¬ (j : Int) < (i : Int) := by omega
        have HE := Lib.hid e1
        clear e1
        go_wp2_with fail
        go_ret
        refine Ret.bool ?_ hB
        symm
        unfold rdyB
        rw [Bool.and_eq_true, List.all_eq_true]
        refine ⟨fun q hq => hno.out q (by rw [HE.out]; simpa using hq), ?_⟩
        rw [← HBS.out i hi, HBIT.out]; rfl
  · have hg := bit1 d i
    rw [hbit] at hg
    have HBIT := Lib.hid hbit
    clear hbit
    go_enter Try.func52, Try.ntmps52
    go_wp2_with fail
    go_ret
    refine Ret.bool ?_ (Below.refl _ _)
    symm
    unfold rdyB
    rw [← bits_of l.length d i hi, HBIT.out]
    simp

theorem few_closed {p s : Int} {l : List Tri} {bf : List Nat} {d : Nat} {lo hi : Int} (hd : d < 2 ^ l.length) (h : hi < lo) : few p s l bf d lo hi = few p s l bf d 1 0 := by
  by_cases hf : d = 2 ^ l.length - 1
  · rw [few_full hf, few_full hf]
  · rw [few_eq hd hf, few_eq hd hf]
    refine minUpto_congr _ fun i _ => ?_
    have e1 : ∀ x : Tri, joinB p s x lo hi = false := fun x => by unfold joinB; simp; omega
    have e2 : ∀ x : Tri, joinB p s x 1 0 = false := fun x => by unfold joinB; simp
    unfold cost
    rw [e1, e2]
    rfl
/-- the key of a window -/
def keyN (lo hi : Int) : Nat := if lo ≤ hi then (1 + lo * 24 + hi).toNat else 0
/-- what is known at a place, if it is known -/
def valK (p s : Int) (l : List Tri) (d k : Nat) : Int := if k = 0 then few p s l (bfL l) d 1 0 else few p s l (bfL l) d ((k - 1) / 24 : Nat) ((k - 1) % 24 : Nat)
theorem valK_key {p s : Int} {l : List Tri} {d : Nat} {lo hi : Int} (hd : d < 2 ^ l.length) (h0 : 0 ≤ lo) (h1 : 0 ≤ hi) (h2 : hi < 24) : valK p s l d (keyN lo hi) = few p s l (bfL l) d lo hi := by
  unfold valK keyN
  by_cases h : lo ≤ hi
  · rw [if_pos h, if_neg (by omega)]
    have e1 : ((((1 + lo * 24 + hi).toNat - 1) / 24 : Nat) : Int) = lo := by omega
    have e2 : ((((1 + lo * 24 + hi).toNat - 1) % 24 : Nat) : Int) = hi := by omega
    rw [e1, e2]
  · rw [if_neg h, if_pos rfl]
    exact (few_closed hd (by omega)).symm
theorem keyN_lt {lo hi : Int} (h0 : 0 ≤ lo) (h1 : 0 ≤ hi) (h2 : hi < 24) : keyN lo hi < 577 := by unfold keyN; split <;> omega
theorem valK_nn {p s : Int} {l : List Tri} {d k : Nat} : 0 ≤ valK p s l d k := by unfold valK; split <;> exact (few_bd _ _ _).1

/-- the rows of what is known -/
structure KnownR (w : World) (kb ko : Nat) (R : List Nat) (p s : Int) (l : List Tri) : Prop where
  row : ∀ (i : Nat) (hi : i < R.length), w.cell? ⟨kb, ko + i, none⟩ = some (.slice (some ⟨R[i], 0, none⟩) 577 577)
  blk : ∀ (i : Nat) (hi : i < R.length), ∃ cs, Blk w R[i] 3 cs ∧ cs.size = 577 ∧ ∀ k, k < 577 → ∃ v : Int, cs[k]? = some (.int .i64 v) ∧ (v = -1 ∨ v = valK p s l i k)
  nd : R.Nodup
  ne : kb ∉ R
theorem KnownR.keep {w w' : World} {kb ko : Nat} {R : List Nat} {p s : Int} {l : List Tri} (h : KnownR w kb ko R p s l) (hB : Below w.heap.size w w') : KnownR w' kb ko R p s l :=
  ⟨fun i hi => (hB.cell (p := ⟨kb, _, none⟩) (lt_of_cell (h.row i hi))).trans (h.row i hi), fun i hi => by
    obtain ⟨cs, h1, h2⟩ := h.blk i hi
    exact ⟨cs, h1.below' hB, h2⟩, h.nd, h.ne⟩
theorem KnownR.set_ {w : World} {kb ko : Nat} {R : List Nat} {p s : Int} {l : List Tri} (h : KnownR w kb ko R p s l) {d k : Nat} (hd : d < R.length) (hk : k < 577) {v : Int} (hv : v = valK p s l d k) : KnownR (w.setCell ⟨R[d], k, none⟩ (.int .i64 v)) kb ko R p s l := by
  have hne : kb ≠ R[d] := fun e => h.ne (by rw [e]; exact List.getElem_mem hd)
  refine ⟨fun i hi => ?_, fun i hi => ?_, h.nd, h.ne⟩
  · rw [World.cell?_setCell_other _ _ _ _ (fun e => by simp only [Addr.mk.injEq] at e; exact hne e.1.symm)]
    exact h.row i hi
  · obtain ⟨cs, h1, h2, h3⟩ := h.blk i hi
    by_cases e : R[i] = R[d]
    · have hid : i = d := (List.getElem_inj h.nd).1 e
      subst hid
      refine ⟨cs.setIfInBounds k (.int .i64 v), h1.set_ k _, by simp [h2], fun q hq => ?_⟩
      by_cases eq : q = k
      · subst eq
        exact ⟨v, by rw [Array.getElem?_setIfInBounds_self_of_lt (by omega)], Or.inr hv⟩
      · obtain ⟨u, h4, h5⟩ := h3 q hq
        exact ⟨u, by rw [Array.getElem?_setIfInBounds_ne (fun e => eq e.symm)]; exact h4, h5⟩
    · exact ⟨cs, h1.far e _, h2, h3⟩

/-- all that the planner reads -/
structure PlanK (w : World) (pb kb ko kc : Nat) (R : List Nat) (p s : Int) (A : Option Addr) (l : List Tri) (c H : Nat) : Prop where
  hP : PlanR w pb p s A l c (.slice (some ⟨kb, ko, none⟩) R.length kc)
  hK : KnownR w kb ko R p s l
  hpb : pb ∉ R
  hr : RdT w H A l
  hH : H ≤ w.heap.size
  hHR : ∀ r ∈ R, H ≤ r
section
variable {w w' : World} {pb kb ko kc : Nat} {R : List Nat} {p s : Int} {A : Option Addr} {l : List Tri} {c H : Nat}
theorem PlanK.keep (h : PlanK w pb kb ko kc R p s A l c H) (hB : Below w.heap.size w w') : PlanK w' pb kb ko kc R p s A l c H :=
  ⟨Blk.below' h.hP hB, h.hK.keep hB, h.hpb, h.hr.below' hB h.hH, Nat.le_trans h.hH hB.size, h.hHR⟩
theorem PlanK.set_ (h : PlanK w pb kb ko kc R p s A l c H) {d k : Nat} (hd : d < R.length) (hk : k < 577) {v : Int} (hv : v = valK p s l d k) : PlanK (w.setCell ⟨R[d], k, none⟩ (.int .i64 v)) pb kb ko kc R p s A l c H := by
  have hH := h.hHR R[d] (List.getElem_mem hd)
  refine ⟨Blk.far h.hP (fun e => h.hpb (by rw [e]; exact List.getElem_mem hd)) _, h.hK.set_ hd hk hv, h.hpb, h.hr.keep fun q hq => ?_, by simpa using h.hH, h.hHR⟩
  exact World.cell?_setCell_other _ _ _ _ (fun e => by
    have h1 : q.block = R[d] := by first | (rw [← e]; done) | (rw [e]; done)
    omega)
/-- what stays -/
def Stay (R : List Nat) (w w' : World) : Prop := Same (fun j => j < w.heap.size ∧ j ∉ R) w w'
theorem Stay.refl (R : List Nat) (w : World) : Stay R w w := Same.refl _ _
theorem Stay.of (R : List Nat) {w w' : World} (h : Below w.heap.size w w') : Stay R w w' := (Same.of_below h).mono fun k hk => hk.1
theorem Stay.step {R : List Nat} {w w1 w2 : World} (h : Stay R w w1) (g : Stay R w1 w2) : Stay R w w2 := Same.trans h (Same.mono g fun k hk => ⟨Nat.lt_of_lt_of_le hk.1 h.size, hk.2⟩)
theorem Stay.set_ {R : List Nat} {w : World} {d k : Nat} (hd : d < R.length) (v : Value) : Stay R w (w.setCell ⟨R[d], k, none⟩ v) :=
  ⟨rfl, rfl, rfl, by simp, fun j hj => Below.heap_setCell w _ v j (fun e => hj.2 (by rw [e]; exact List.getElem_mem hd))⟩
end

/-- what fewest gives -/
def FewR (pb kb ko kc : Nat) (R : List Nat) (p s : Int) (A : Option Addr) (l : List Tri) (c H : Nat) (d : Nat) (lo hi : Int) (w : World) (e : Ending) (w' : World) : Prop :=
  e = .returned (.int .i64 (few p s l (bfL l) d lo hi)) ∧ PlanK w' pb kb ko kc R p s A l c H ∧ Stay R w w'
/-- fewest, of states of which not more than so many works are left -/
def FewIH (pb kb ko kc : Nat) (R : List Nat) (p s : Int) (A : Option Addr) (l : List Tri) (c H : Nat) (k : Nat) : Prop :=
  ∀ (d : Nat) (lo hi : Int) (w : World), zeros l.length d ≤ k → d < 2 ^ l.length → 0 ≤ lo → lo ≤ 23 → 0 ≤ hi → hi ≤ 23 → PlanK w pb kb ko kc R p s A l c H →
    Calls Try.prog 51 #[.pointer (some ⟨pb, 0, none⟩), .int .i64 d, .int .i64 lo, .int .i64 hi] w (FewR pb kb ko kc R p s A l c H d lo hi w)

/-- the numbers -/
structure NumOk (p s : Int) (l : List Tri) : Prop where
  n10 : l.length ≤ 10
  b1 : 2 ≤ s
  b2 : s ≤ p
  b3 : p ≤ 24
  hb : ∀ (k : Nat) (hk : k < l.length), 0 ≤ l[k].b ∧ l[k].b ≤ p - 2

theorem joinB_eq {p s : Int} {x : Tri} {lo hi : Int} : joinB p s x lo hi = decide (max (wlo s x) lo ≤ min (whi p s x) hi) := by
  unfold joinB
  rw [← Bool.decide_and]
  apply decide_eq_decide.2
  constructor
  · exact fun h => h.2
  · intro h; exact ⟨by omega, h⟩

set_option maxRecDepth 100000 in
set_option maxHeartbeats 2000000 in
theorem rwith_any (pb kb ko kc : Nat) (R : List Nat) (p s : Int) (A : Option Addr) (l : List Tri) (c H k : Nat) (ok : NumOk p s l) (ih : FewIH pb kb ko kc R p s A l c H k) (d i : Nat) (lo hi : Int) (w : World) (hP : PlanK w pb kb ko kc R p s A l c H)
    (hi' : i < l.length) (hbit : d.testBit i = false) (hz : zeros l.length d ≤ k + 1) (hd : d < 2 ^ l.length) (g1 : 0 ≤ lo) (g2 : lo ≤ 23) (g3 : 0 ≤ hi) (g4 : hi ≤ 23) :
    Calls Try.prog 53 #[.pointer (some ⟨pb, 0, none⟩), .int .i64 d, .int .i64 lo, .int .i64 hi, .int .i64 i] w fun e w' =>
      e = .returned (.tuple #[.int .i64 (nn (joinB p s l[i] lo hi) + few p s l (bfL l) (d ||| 2 ^ i) (nlo s l[i] lo (joinB p s l[i] lo hi)) (nhi p s l[i] hi (joinB p s l[i] lo hi))), .int .i64 (nlo s l[i] lo (joinB p s l[i] lo hi)), .int .i64 (nhi p s l[i] hi (joinB p s l[i] lo hi))]) ∧
      PlanK w' pb kb ko kc R p s A l c H ∧ Stay R w w' := by
  obtain ⟨n10, b1, b2, b3, hb⟩ := ok
  have hbi := hb i hi'
  have h1024 := two_pow_le n10
  have hz2 := zeros_or hi' hbit
  obtain ⟨d2, hd2⟩ : ∃ x : Nat, Hid (d ||| 2 ^ i = x) := ⟨_, Lib.hid rfl⟩
  have hadd := or_add' (show d < 1024 by omega) (show i < 10 by omega) hbit
  have hd2b : d2 < 2 ^ l.length := by rw [← hd2.out]; exact or_lt hd hi'
  rw [hd2.out] at hz2 hadd ⊢
  obtain ⟨q, hq⟩ : ∃ q : Nat, 2 ^ i = q := ⟨_, rfl⟩
  rw [hq] at hadd
  have hw1 : IntKind.i64.wrap (2 ^ i) = (q : Int) := by
    rw [show ((2 : Int) ^ i) = ((2 ^ i : Nat) : Int) by simp, hq]
    exact IntWalk.i64_in _ (by omega)
  have HW2 := Lib.hid (show (d : Int) + (q : Int) = (d2 : Int) by omega)
  have hqb : q ≤ 1024 := by omega
  have hdb : d ≤ 1024 := by omega
  obtain ⟨a, ha⟩ : ∃ a, Hid (wlo s l[i] = a) := ⟨_, Lib.hid rfl⟩
  obtain ⟨b, hbb⟩ : ∃ b, Hid (whi p s l[i] = b) := ⟨_, Lib.hid rfl⟩
  have hab : 0 ≤ a ∧ a ≤ 23 ∧ 0 ≤ b ∧ b ≤ 23 := by rw [← ha.out, ← hbb.out]; unfold wlo whi; omega
  have hj := joinB_eq (p := p) (s := s) (x := l[i]) (lo := lo) (hi := hi)
  rw [ha.out, hbb.out] at hj
  have IH : Hid (∀ (lo' hi' : Int) (w' : World), 0 ≤ lo' → lo' ≤ 23 → 0 ≤ hi' → hi' ≤ 23 → PlanK w' pb kb ko kc R p s A l c H → Calls Try.prog 51 #[.pointer (some ⟨pb, 0, none⟩), .int .i64 d2, .int .i64 lo', .int .i64 hi'] w' fun e w'' => ∃ F, e = .returned (.int .i64 F) ∧ Hid (few p s l (bfL l) d2 lo' hi' = F) ∧ 0 ≤ F ∧ F ≤ 10 ∧ PlanK w'' pb kb ko kc R p s A l c H ∧ Stay R w' w'') := fun lo' hi' w' h1 h2 h3 h4 hP' =>
    (ih d2 lo' hi' w' (by omega) hd2b h1 h2 h3 h4 hP').mono fun e w'' ⟨e1, e2, e3⟩ => by
      have := few_bd (p := p) (s := s) (l := l) (bf := bfL l) d2 lo' hi'
      exact ⟨_, e1, rfl, this.1, by omega, e2, e3⟩
  have WN := Lib.hid (fun (w' : World) (hP' : PlanK w' pb kb ko kc R p s A l c H) => rwindow_any p s A l c _ pb i w' H hP'.hP hP'.hr hP'.hH hi' b1 b2 b3 hbi.1 hbi.2)
  rw [ha.out, hbb.out] at WN
  have HPL := Lib.hid hP
  have i2 : (i : Int) ≤ 64 := by omega
  have i3 : (0 : Int) ≤ (i : Int) := by omega
  have m1 : ∀ j : Bool, nlo s l[i] lo j = if j then max a lo else a := fun j => by unfold nlo; rw [ha.out]
  have m2 : ∀ j : Bool, nhi p s l[i] hi j = if j then min b hi else b := fun j => by unfold nhi; rw [hbb.out]
  by_cases hjoin : max a lo ≤ min b hi
  · rw [decide_eq_true hjoin] at hj
    have n1 := m1 true
    have n2 := m2 true
    rw [hj]
    rw [if_pos rfl] at n1 n2
    rw [n1, n2]
    rcases Int.lt_or_le a lo with c1 | c1 <;> rcases Int.lt_or_le hi b with c2 | c2
    all_goals
      first
        | (rw [show max a lo = lo by omega] at hjoin ⊢)
        | (rw [show max a lo = a by omega] at hjoin ⊢)
      first
        | (rw [show min b hi = hi by omega] at hjoin ⊢)
        | (rw [show min b hi = b by omega] at hjoin ⊢)
      clear hj m1 m2 n1 n2 hbit hP ih hb hbi hd2b hz2 hadd
      go_enter Try.func53, Try.ntmps53
      go_wp2_with (first
        | (go_at_call 75; refine (WN.out _ HPL.out).mono ?_; rintro e w1 ⟨rfl, hB1⟩)
        | (go_at_call 51; rw [HW2.out]; refine (IH.out _ _ _ (by omega) (by omega) (by omega) (by omega) (HPL.out.keep hB1)).mono ?_; rintro e w2 ⟨F, rfl, hF, hF0, hF1, hP2, hS2⟩
           have HP2 := Lib.hid hP2
           clear hP2))
      go_ret3
      refine ⟨?_, HP2.out, (Stay.of R hB1).step hS2⟩
      rw [hF.out]
      simp [nn]
  · rw [decide_eq_false hjoin] at hj
    have n1 := m1 false
    have n2 := m2 false
    rw [hj]
    rw [if_neg (by decide)] at n1 n2
    rw [n1, n2]
    rcases Int.lt_or_le a lo with c1 | c1 <;> rcases Int.lt_or_le hi b with c2 | c2
    all_goals
      first
        | (rw [show max a lo = lo by omega] at hjoin)
        | (rw [show max a lo = a by omega] at hjoin)
      first
        | (rw [show min b hi = hi by omega] at hjoin)
        | (rw [show min b hi = b by omega] at hjoin)
      clear hj m1 m2 n1 n2 hbit hP ih hb hbi hd2b hz2 hadd
      go_enter Try.func53, Try.ntmps53
      go_wp2_with (first
        | (go_at_call 75; refine (WN.out _ HPL.out).mono ?_; rintro e w1 ⟨rfl, hB1⟩)
        | (go_at_call 51; rw [HW2.out]; refine (IH.out _ _ _ (by omega) (by omega) (by omega) (by omega) (HPL.out.keep hB1)).mono ?_; rintro e w2 ⟨F, rfl, hF, hF0, hF1, hP2, hS2⟩
           have HP2 := Lib.hid hP2
           clear hP2))
      go_ret3
      refine ⟨?_, HP2.out, (Stay.of R hB1).step hS2⟩
      rw [hF.out]
      simp [nn]

set_option maxRecDepth 100000 in
set_option maxHeartbeats 1000000 in
theorem rfewest_full (pb kb ko kc : Nat) (R : List Nat) (p s : Int) (A : Option Addr) (l : List Tri) (c H : Nat) (ok : NumOk p s l) (d : Nat) (lo hi : Int) (w : World) (hfull : d = 2 ^ l.length - 1) (hP : PlanK w pb kb ko kc R p s A l c H) :
    Calls Try.prog 51 #[.pointer (some ⟨pb, 0, none⟩), .int .i64 d, .int .i64 lo, .int .i64 hi] w (FewR pb kb ko kc R p s A l c H d lo hi w) := by
  have n10 := ok.n10
  have h2 := two_pow_le n10
  have HF := Lib.hid hfull
  obtain ⟨M, hMp⟩ : ∃ M : Nat, Hid (2 ^ l.length = M) := ⟨_, Lib.hid rfl⟩
  rw [hMp.out] at h2 hfull
  have hw2 : IntKind.i64.wrap (2 ^ l.length) = (M : Int) := by
    rw [show ((2 : Int) ^ l.length) = ((2 ^ l.length : Nat) : Int) by simp, hMp.out]
    exact IntWalk.i64_in _ (by omega)
  have c1 := hP.hP.cell 1 _ rfl
  have pl := Blk.lt hP.hP
  have HP := Lib.hid hP
  have i2 : (l.length : Int) ≤ 64 := by omega
  have i3 : (0 : Int) ≤ (l.length : Int) := by omega
  have t1 : ((d : Int) == (M : Int) - 1) = true := by simp; omega
  clear hfull hP ok
  go_enter Try.func51, Try.ntmps51
  go_wp2_with fail
  go_ret
  exact ⟨ret_int (few_full HF.out).symm, HP.out, Stay.refl _ _⟩

set_option maxRecDepth 100000 in
set_option maxHeartbeats 4000000 in
theorem rfewest_any (pb kb ko kc : Nat) (R : List Nat) (p s : Int) (A : Option Addr) (l : List Tri) (c H : Nat) (ok : NumOk p s l) (hR : R.length = 2 ^ l.length) : ∀ k : Nat, FewIH pb kb ko kc R p s A l c H k := by
  intro k
  induction k with
  | zero =>
    intro d lo hi w hz hd g1 g2 g3 g4 hP
    exact rfewest_full pb kb ko kc R p s A l c H ok d lo hi w (zeros_full hd (by omega)) hP
  | succ k ih =>
    intro d lo hi w hz hd g1 g2 g3 g4 hP
    by_cases hfull : d = 2 ^ l.length - 1
    · exact rfewest_full pb kb ko kc R p s A l c H ok d lo hi w hfull hP
    · have n10 := ok.n10
      have h2 := two_pow_le n10
      have hdR : d < R.length := by rw [hR]; exact hd
      have HF := Lib.hid hfull
      have HD := Lib.hid hd
      have HZ := Lib.hid hz
      obtain ⟨M, hMp⟩ : ∃ M : Nat, Hid (2 ^ l.length = M) := ⟨_, Lib.hid rfl⟩
      have hRM : R.length = M := by rw [hR, hMp.out]
      rw [hMp.out] at h2 hfull hd
      have hw2 : IntKind.i64.wrap (2 ^ l.length) = (M : Int) := by
        rw [show ((2 : Int) ^ l.length) = ((2 ^ l.length : Nat) : Int) by simp, hMp.out]
        exact IntWalk.i64_in _ (by omega)
      have c1 := hP.hP.cell 1 _ rfl
      have c3 := hP.hP.cell 3 _ rfl
      have pl := Blk.lt hP.hP
      have hrow := hP.hK.row d hdR
      have kl := lt_of_cell hrow
      obtain ⟨K, hKN⟩ : ∃ K, Hid (keyN lo hi = K) := ⟨_, Lib.hid rfl⟩
      have hK577 : K < 577 := by rw [← hKN.out]; exact keyN_lt g1 g3 (by omega)
      obtain ⟨cs, hblk, hcs, hvals⟩ := hP.hK.blk d hdR
      obtain ⟨v, hv, hvv⟩ := hvals K hK577
      have hVK : valK p s l d K = few p s l (bfL l) d lo hi := by rw [← hKN.out]; exact valK_key HD.out g1 g3 (by omega)
      have HVK := Lib.hid hVK
      have HPK := Lib.hid hP
      have HR := Lib.hid hR
      have hcell := hblk.cell K _ hv
      obtain ⟨rd, hrd⟩ : ∃ rd, Hid (R[d] = rd) := ⟨_, Lib.hid rfl⟩
      rw [hrd.out] at hrow hcell
      have rl := lt_of_cell hcell
      have i2 : (l.length : Int) ≤ 64 := by omega
      have i3 : (0 : Int) ≤ (l.length : Int) := by omega
      have t1 : ((d : Int) == (M : Int) - 1) = false := by simp; omega
      have k0 : (0 : Int) ≤ (d : Int) := by omega
      have k1 : (d : Int) < (R.length : Int) := by omega
      have k2 : (0 : Int) ≤ (K : Int) := by omega
      have k3 : (K : Int) < 577 := by omega
      have HIH := Lib.hid ih
      have HOK := Lib.hid ok
      clear hvals hblk hv hcs hfull hP ih hR hVK hRM hz
      have HVV := Lib.hid hvv
      have hkey : (lo ≤ hi ∧ 1 + lo * 24 + hi = (K : Int)) ∨ (¬ lo ≤ hi ∧ K = 0) := by
        rw [← hKN.out]; unfold keyN
        by_cases h : lo ≤ hi
        · left; rw [if_pos h]; omega
        · right; rw [if_neg h]; omega
      by_cases hv0 : 0 ≤ v
      · have hvf : v = few p s l (bfL l) d lo hi := by
          rcases hvv with h | h
          · omega
          · rw [h, HVK.out]
        have HVF := Lib.hid hvf
        clear hvf hvv
        rcases hkey with ⟨q1, q2⟩ | ⟨q1, q2⟩
        · go_enter Try.func51, Try.ntmps51
          go_wp2_with fail
          go_ret
          exact ⟨ret_int HVF.out, HPK.out, Stay.refl _ _⟩
        · subst q2
          go_enter Try.func51, Try.ntmps51
          go_wp2_with fail
          go_ret
          exact ⟨ret_int HVF.out, HPK.out, Stay.refl _ _⟩
      · have tv : decide (0 ≤ v) = false := decide_eq_false hv0
        clear hvv
        have HB : Hid (∀ (k : Nat) (hk : k < l.length), 0 ≤ l[k].b ∧ l[k].b ≤ 100) := fun k hk => by have := HOK.out.hb k hk; have := HOK.out.b3; omega
        have HMIN : Hid ((l.length : Int) = minUpto (cost p s l (bfL l) d lo hi) l.length 0) := rfl
        rcases hkey with ⟨q1, q2⟩ | ⟨q1, q2⟩
        · skip
          go_enter Try.func51, Try.ntmps51
          go_wp2_with fail
          go_loopw [10, 11] (fun m i wr => ∃ (j : Nat) (mv : Int), j ≤ l.length ∧ i = .int .i64 j ∧ m = .int .i64 mv ∧ Hid (mv = minUpto (cost p s l (bfL l) d lo hi) l.length j) ∧ 0 ≤ mv ∧ mv ≤ 10 ∧ Hid (PlanK wr pb kb ko kc R p s A l c H) ∧ Stay R w wr) (fun _ i _ => l.length - (intOf i).toNat)
          case atStart => exact ⟨0, l.length, Nat.zero_le _, rfl, rfl, HMIN, by omega, by omega, HPK, Stay.refl _ _⟩
          case round =>
            obtain ⟨j, mv, hj, rfl, rfl, hmv, hm0, hm1, hPr0, hS⟩ := hrel
            have hPr := hPr0.out
            have c1 := hPr.hP.cell 1 _ rfl
            have pl := Blk.lt hPr.hP
            by_cases hjl : j < l.length
            · have k5 : (j : Int) < (l.length : Int) := by omega
              have hfr := free_rdy (l := l) (d := d) (M := bitsOf l.length d) hjl n10 HD.out (bits_of _ _)
              cases hfree : freeB (bfL l) d j
              · rw [hfree] at hfr
                have HFR := Lib.hid hfr
                have HNX := Lib.hid (minUpto_none hmv.out (cost_not hfree))
                clear hfree hfr
                go_wp2_with (first
                  | (go_at_call 52; refine (rfree_any p s A l c _ pb j d wr H hPr.hP hPr.hr hPr.hH hjl n10 (by omega) HB.out).mono ?_; rintro e w2 ⟨rfl, hB2⟩; rw [← HFR.out])
                  | fail)
                go_roundw
                case rel => exact ⟨j + 1, mv, by omega, by go_num, rfl, HNX.out, hm0, hm1, hPr.keep hB2, hS.step (Stay.of R hB2)⟩
                case measure => simp [intOf]; omega
              · rw [hfree] at hfr
                have HFR := Lib.hid hfr
                have hcst := cost_def (p := p) (s := s) (l := l) (lo := lo) (hi := hi) hfree
                rw [xAt_of hjl] at hcst
                have hbit := freeB_bit hfree
                have WT := Lib.hid (fun (w' : World) (hP' : PlanK w' pb kb ko kc R p s A l c H) => rwith_any pb kb ko kc R p s A l c H k HOK.out HIH.out d j lo hi w' hP' hjl hbit HZ.out HD.out g1 g2 g3 g4)
                have hfb := few_bd (p := p) (s := s) (l := l) (bf := bfL l) (d ||| 2 ^ j) (nlo s l[j] lo (joinB p s l[j] lo hi)) (nhi p s l[j] hi (joinB p s l[j] lo hi))
                have hnb := nn_bd (joinB p s l[j] lo hi)
                obtain ⟨X, hX⟩ : ∃ X, Hid (nn (joinB p s l[j] lo hi) + few p s l (bfL l) (d ||| 2 ^ j) (nlo s l[j] lo (joinB p s l[j] lo hi)) (nhi p s l[j] hi (joinB p s l[j] lo hi)) = X) := ⟨_, Lib.hid rfl⟩
                have hXb : 0 ≤ X ∧ X ≤ 11 := by rw [← hX.out]; omega
                rw [hX.out] at hcst WT
                have HNX := Lib.hid (minUpto_some hmv.out hcst)
                clear hfree hfr hcst hbit hfb hnb
                by_cases hlt : X < mv
                · go_wp2_with (first
                    | (go_at_call 52; refine (rfree_any p s A l c _ pb j d wr H hPr.hP hPr.hr hPr.hH hjl n10 (by omega) HB.out).mono ?_; rintro e w2 ⟨rfl, hB2⟩; rw [← HFR.out])
                    | (go_at_call 53; refine (WT.out w2 (hPr.keep hB2)).mono ?_; rintro e w3 ⟨rfl, hP3, hS3⟩
                       have HP3 := Lib.hid hP3
                       clear hP3))
                  go_roundw
                  case rel => exact ⟨j + 1, X, by omega, by go_num, rfl, by rw [Hid, ← HNX.out]; omega, by omega, by omega, HP3, (hS.step (Stay.of R hB2)).step hS3⟩
                  case measure => simp [intOf]; omega
                · go_wp2_with (first
                    | (go_at_call 52; refine (rfree_any p s A l c _ pb j d wr H hPr.hP hPr.hr hPr.hH hjl n10 (by omega) HB.out).mono ?_; rintro e w2 ⟨rfl, hB2⟩; rw [← HFR.out])
                    | (go_at_call 53; refine (WT.out w2 (hPr.keep hB2)).mono ?_; rintro e w3 ⟨rfl, hP3, hS3⟩
                       have HP3 := Lib.hid hP3
                       clear hP3))
                  go_roundw
                  case rel => exact ⟨j + 1, mv, by omega, by go_num, rfl, by rw [Hid, ← HNX.out]; omega, by omega, by omega, HP3, (hS.step (Stay.of R hB2)).step hS3⟩
                  case measure => simp [intOf]; omega
            · have e1 : j = l.length := by omega
              subst e1
              have hfw : mv = few p s l (bfL l) d lo hi := by rw [hmv.out, few_eq HD.out HF.out]
              have HFW := Lib.hid hfw
              have hset := hPr.set_ (d := d) (k := K) (by rw [HR.out]; exact HD.out) (by omega) (v := mv) (by rw [hfw, HVK.out])
              have hsty : Stay R wr (wr.setCell ⟨R[d]'(by rw [HR.out]; exact HD.out), K, none⟩ (.int .i64 mv)) := Stay.set_ _ _
              rw [hrd.out] at hset hsty
              have hrow2 := hPr.hK.row d (by rw [HR.out]; exact HD.out)
              obtain ⟨cs2, hblk2, hcs2, hv2⟩ := hPr.hK.blk d (by rw [HR.out]; exact HD.out)
              rw [hrd.out] at hrow2 hblk2
              obtain ⟨v2, hv3, _⟩ := hv2 K (by omega)
              have q3 := hblk2.cell K _ hv3
              have q4 := hblk2.frozen K
              have q5 := hblk2.lt
              have c3 := hPr.hP.cell 3 _ rfl
              have kl2 := lt_of_cell hrow2
              have HSET := Lib.hid hset
              clear hfw hset hv2 hv3 hcs2
              go_wp2_with fail
              go_ret
              exact ⟨ret_int HFW.out, HSET.out, hS.step hsty⟩
        · subst q2
          go_enter Try.func51, Try.ntmps51
          go_wp2_with fail
          go_loopw [10, 11] (fun m i wr => ∃ (j : Nat) (mv : Int), j ≤ l.length ∧ i = .int .i64 j ∧ m = .int .i64 mv ∧ Hid (mv = minUpto (cost p s l (bfL l) d lo hi) l.length j) ∧ 0 ≤ mv ∧ mv ≤ 10 ∧ Hid (PlanK wr pb kb ko kc R p s A l c H) ∧ Stay R w wr) (fun _ i _ => l.length - (intOf i).toNat)
          case atStart => exact ⟨0, l.length, Nat.zero_le _, rfl, rfl, HMIN, by omega, by omega, HPK, Stay.refl _ _⟩
          case round =>
            obtain ⟨j, mv, hj, rfl, rfl, hmv, hm0, hm1, hPr0, hS⟩ := hrel
            have hPr := hPr0.out
            have c1 := hPr.hP.cell 1 _ rfl
            have pl := Blk.lt hPr.hP
            by_cases hjl : j < l.length
            · have k5 : (j : Int) < (l.length : Int) := by omega
              have hfr := free_rdy (l := l) (d := d) (M := bitsOf l.length d) hjl n10 HD.out (bits_of _ _)
              cases hfree : freeB (bfL l) d j
              · rw [hfree] at hfr
                have HFR := Lib.hid hfr
                have HNX := Lib.hid (minUpto_none hmv.out (cost_not hfree))
                clear hfree hfr
                go_wp2_with (first
                  | (go_at_call 52; refine (rfree_any p s A l c _ pb j d wr H hPr.hP hPr.hr hPr.hH hjl n10 (by omega) HB.out).mono ?_; rintro e w2 ⟨rfl, hB2⟩; rw [← HFR.out])
                  | fail)
                go_roundw
                case rel => exact ⟨j + 1, mv, by omega, by go_num, rfl, HNX.out, hm0, hm1, hPr.keep hB2, hS.step (Stay.of R hB2)⟩
                case measure => simp [intOf]; omega
              · rw [hfree] at hfr
                have HFR := Lib.hid hfr
                have hcst := cost_def (p := p) (s := s) (l := l) (lo := lo) (hi := hi) hfree
                rw [xAt_of hjl] at hcst
                have hbit := freeB_bit hfree
                have WT := Lib.hid (fun (w' : World) (hP' : PlanK w' pb kb ko kc R p s A l c H) => rwith_any pb kb ko kc R p s A l c H k HOK.out HIH.out d j lo hi w' hP' hjl hbit HZ.out HD.out g1 g2 g3 g4)
                have hfb := few_bd (p := p) (s := s) (l := l) (bf := bfL l) (d ||| 2 ^ j) (nlo s l[j] lo (joinB p s l[j] lo hi)) (nhi p s l[j] hi (joinB p s l[j] lo hi))
                have hnb := nn_bd (joinB p s l[j] lo hi)
                obtain ⟨X, hX⟩ : ∃ X, Hid (nn (joinB p s l[j] lo hi) + few p s l (bfL l) (d ||| 2 ^ j) (nlo s l[j] lo (joinB p s l[j] lo hi)) (nhi p s l[j] hi (joinB p s l[j] lo hi)) = X) := ⟨_, Lib.hid rfl⟩
                have hXb : 0 ≤ X ∧ X ≤ 11 := by rw [← hX.out]; omega
                rw [hX.out] at hcst WT
                have HNX := Lib.hid (minUpto_some hmv.out hcst)
                clear hfree hfr hcst hbit hfb hnb
                by_cases hlt : X < mv
                · go_wp2_with (first
                    | (go_at_call 52; refine (rfree_any p s A l c _ pb j d wr H hPr.hP hPr.hr hPr.hH hjl n10 (by omega) HB.out).mono ?_; rintro e w2 ⟨rfl, hB2⟩; rw [← HFR.out])
                    | (go_at_call 53; refine (WT.out w2 (hPr.keep hB2)).mono ?_; rintro e w3 ⟨rfl, hP3, hS3⟩
                       have HP3 := Lib.hid hP3
                       clear hP3))
                  go_roundw
                  case rel => exact ⟨j + 1, X, by omega, by go_num, rfl, by rw [Hid, ← HNX.out]; omega, by omega, by omega, HP3, (hS.step (Stay.of R hB2)).step hS3⟩
                  case measure => simp [intOf]; omega
                · go_wp2_with (first
                    | (go_at_call 52; refine (rfree_any p s A l c _ pb j d wr H hPr.hP hPr.hr hPr.hH hjl n10 (by omega) HB.out).mono ?_; rintro e w2 ⟨rfl, hB2⟩; rw [← HFR.out])
                    | (go_at_call 53; refine (WT.out w2 (hPr.keep hB2)).mono ?_; rintro e w3 ⟨rfl, hP3, hS3⟩
                       have HP3 := Lib.hid hP3
                       clear hP3))
                  go_roundw
                  case rel => exact ⟨j + 1, mv, by omega, by go_num, rfl, by rw [Hid, ← HNX.out]; omega, by omega, by omega, HP3, (hS.step (Stay.of R hB2)).step hS3⟩
                  case measure => simp [intOf]; omega
            · have e1 : j = l.length := by omega
              subst e1
              have hfw : mv = few p s l (bfL l) d lo hi := by rw [hmv.out, few_eq HD.out HF.out]
              have HFW := Lib.hid hfw
              have hset := hPr.set_ (d := d) (k := 0) (by rw [HR.out]; exact HD.out) (by omega) (v := mv) (by rw [hfw, HVK.out])
              have hsty : Stay R wr (wr.setCell ⟨R[d]'(by rw [HR.out]; exact HD.out), 0, none⟩ (.int .i64 mv)) := Stay.set_ _ _
              rw [hrd.out] at hset hsty
              have hrow2 := hPr.hK.row d (by rw [HR.out]; exact HD.out)
              obtain ⟨cs2, hblk2, hcs2, hv2⟩ := hPr.hK.blk d (by rw [HR.out]; exact HD.out)
              rw [hrd.out] at hrow2 hblk2
              obtain ⟨v2, hv3, _⟩ := hv2 0 (by omega)
              have q3 := hblk2.cell 0 _ hv3
              have q4 := hblk2.frozen 0
              have q5 := hblk2.lt
              have c3 := hPr.hP.cell 3 _ rfl
              have kl2 := lt_of_cell hrow2
              have HSET := Lib.hid hset
              clear hfw hset hv2 hv3 hcs2
              go_wp2_with fail
              go_ret
              exact ⟨ret_int HFW.out, HSET.out, hS.step hsty⟩
end Go.Proofs.Ytogkgoabonbkkaa
