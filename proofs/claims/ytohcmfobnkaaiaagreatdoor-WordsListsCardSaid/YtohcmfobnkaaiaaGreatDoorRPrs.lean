/- torchonref01: less, number, read. -/
import Derived.Test.YtohcmfobnkaaiaaGreatDoorRPrsM
import Derived.Test.YtohcmfobnkaaiaaGreatDoorIdxA
import Derived.Test.YtohcmfobnkaaiaaGreatDoorRNum3
import Derived.Test.YtohcmfobnkaaiaaGreatDoorLaw01
set_option linter.unusedSimpArgs false
set_option linter.unusedVariables false
namespace Go.Proofs.YtohcmfobnkaaiaaGreatDoor
open Go Go.RowKit Tor

set_option maxRecDepth 100000 in
set_option maxHeartbeats 2000000 in
theorem rless_any (a b : List UInt8) (w : World) (ha : a.length ≤ 4000000) (hb : b.length ≤ 4000000) : Calls Tryz.prog 23 #[.string (bN a), .string (bN b)] w (Ret (.bool (ltB a b)) w) := by
  have za : (bN a).size = a.length := rfl
  have zb : (bN b).size = b.length := rfl
  have ta : (bN a).toList = a := Lib.toList_data _
  have tb : (bN b).toList = b := Lib.toList_data _
  obtain ⟨r, hr⟩ : ∃ r, Hid (ltB a b = r) := ⟨_, Lib.hid rfl⟩
  rw [hr.out]
  by_cases h1 : a.length < b.length
  · have e1 : (a.length : Int) < (b.length : Int) := by omega
    have hrt : Hid (r = true) := by rw [Hid, ← hr.out]; unfold ltB; rw [decide_eq_true h1]; rfl
    clear h1 hr
    go_enter Tryz.func23, Tryz.ntmps23
    go_wp2_with fail
    go_ret
    rw [hrt.out]
    exact ⟨rfl, Below.refl _ _⟩
  have e1 : ¬ (a.length : Int) < (b.length : Int) := by omega
  by_cases h2 : a.length = b.length
  · have e2 : ((a.length : Int) == (b.length : Int)) = true := by rw [beq_iff_eq]; omega
    have hrt : Hid (r = Op.bytesLess a b) := by rw [Hid, ← hr.out]; unfold ltB; rw [decide_eq_false h1, decide_eq_true h2]; rfl
    obtain ⟨q, hq⟩ : ∃ q, Op.bytesLess a b = q := ⟨_, rfl⟩
    rw [hq] at hrt
    clear h1 h2 hr
    have HE := Lib.hid e2
    go_enter Tryz.func23, Tryz.ntmps23
    go_wp2_with fail
    all_goals
      go_ret
      rw [hrt.out]
      exact ⟨by simp, Below.refl _ _⟩
  · have e2 : ((a.length : Int) == (b.length : Int)) = false := by rw [beq_eq_false_iff_ne]; omega
    have hrt : Hid (r = false) := by rw [Hid, ← hr.out]; unfold ltB; rw [decide_eq_false h1, decide_eq_false h2]; rfl
    clear h1 h2 hr
    go_enter Tryz.func23, Tryz.ntmps23
    go_wp2_with fail
    go_ret
    rw [hrt.out]
    exact ⟨rfl, Below.refl _ _⟩
set_option maxRecDepth 100000 in
set_option maxHeartbeats 2000000 in
theorem rnumber_any (L : List UInt8) (w : World) (hl : L.length ≤ 1000000) : Calls Tryz.prog 38 #[.string (bN L)] w (Ret (.bool (natB L)) w) := by
  have hz : (bN L).size = L.length := rfl
  have HW := Lib.hid (fun w' => rwhole_any L w' hl)
  rw [whole_nat]
  cases hw : wholeB L
  · rw [hw] at HW
    simp only [Bool.false_and]
    clear hw
    go_enter Tryz.func38, Tryz.ntmps38
    go_wp2_with fail
    refine (HW.out _).mono ?_
    rintro e w1 ⟨rfl, hB1⟩
    go_wp2_with fail
    go_ret
    exact ⟨rfl, hB1⟩
  · rw [hw] at HW
    have hne : 0 < L.length := by
      cases L with
      | nil => exact absurd hw (by decide)
      | cons _ _ => simp
    have hsz : 0 < (bN L).size := hne
    have h0 : (0 : Int) < (L.length : Int) := by omega
    obtain ⟨c, hc⟩ : ∃ c, Hid (L[0]'hne = c) := ⟨_, Lib.hid rfl⟩
    have hcb : (bN L)[0]'hsz = c := hc.out
    have hh : L.head? = some c := by rw [List.head?_eq_getElem?, List.getElem?_eq_getElem hne, hc.out]
    rw [hh]
    simp only [Bool.true_and]
    by_cases h45 : c = 45
    · have e1 : ((c.toNat : Int) != 45) = false := by rw [h45]; rfl
      rw [decide_eq_false (by rw [h45]; simp)]
      clear hw h45 hh
      go_enter Tryz.func38, Tryz.ntmps38
      go_wp2_with fail
      refine (HW.out _).mono ?_
      rintro e w1 ⟨rfl, hB1⟩
      go_wp2_with fail
      go_ret
      exact ⟨rfl, hB1⟩
    · have e1 : ((c.toNat : Int) != 45) = true := by rw [bne_iff_ne]; exact fun he => h45 (UInt8.toNat.inj (by show c.toNat = 45; omega))
      rw [decide_eq_true (by simpa using h45)]
      clear hw h45 hh
      go_enter Tryz.func38, Tryz.ntmps38
      go_wp2_with fail
      refine (HW.out _).mono ?_
      rintro e w1 ⟨rfl, hB1⟩
      go_wp2_with fail
      go_ret
      exact ⟨rfl, hB1⟩

theorem itc_ret2 {fn : Func} {p u : Tmp} (h : fn.results = #[.cell p 66, .tmp u]) {R : Ending → World → Prop} {a : Act} {w : World} {g : Nat} {x y z : Value} (hp : a.tmps.getD p undef = .pointer (some ⟨g, 0, none⟩))
    (hb : Blk w g 66 #[x, y, z]) (hd : a.defers = []) (hR : R (.returned (.tuple #[.agg #[x, y, z], a.tmps.getD u undef])) w) : bodyPost Tryz.prog fn R .ret a w := by
  refine bodyPost_ret (v := .tuple #[.agg #[x, y, z], a.tmps.getD u undef]) ?_ hd hR
  have c0 := hb.cell 0 x rfl
  have c1 := hb.cell 1 y rfl
  have c2 := hb.cell 2 z rfl
  have hp' : a.tmps[p]?.getD undef = .pointer (some ⟨g, 0, none⟩) := by simpa using hp
  simp only [results, h]
  simp [Sem.run_bind, Result.andThen, hp']
  go_simp
set_option maxRecDepth 100000 in
set_option maxHeartbeats 8000000 in
theorem rread_any (L : List UInt8) (w : World) (hl : L.length ≤ 1000000) :
    Calls Tryz.prog 22 #[.string (bN L)] w (Ret (.tuple #[.agg #[.string (bN (rreadP L).1.n), .string (bN (rreadP L).1.m), .string (bN (rreadP L).1.t)], .bool (rreadP L).2]) w) := by
  have hz : (bN L).size = L.length := rfl
  obtain ⟨R, hR⟩ : ∃ R, Hid (rreadP L = R) := ⟨_, Lib.hid rfl⟩
  rw [hR.out]
  have kP := Blk.new w 66 #[.string ByteArray.empty, .string ByteArray.empty, .string ByteArray.empty]
  have hBB : Below w.heap.size w (w.alloc (.cells #[.string ByteArray.empty, .string ByteArray.empty, .string ByteArray.empty] 66)) := (Below.refl _ _).alloc (Nat.le_refl _) _
  go_enter Tryz.func22, Tryz.ntmps22
  go_wp2_with fail
  go_loopw [4, 5, 6] (fun i _ _ wr => ∃ j : Nat, j ≤ L.length ∧ i = .int .i64 j ∧ Hid (Lib.NoAny L [45, 120] j) ∧ Below w.heap.size w wr ∧ Blk wr w.heap.size 66 #[.string ByteArray.empty, .string ByteArray.empty, .string ByteArray.empty]) (fun i _ _ _ => L.length - (intOf i).toNat)
  case atStart => exact ⟨0, Nat.zero_le _, rfl, Lib.hid (Lib.NoAny.zero _ _), hBB, kP⟩
  case round =>
    clear hBB kP
    obtain ⟨j, hj, rfl, hno, hB, kP⟩ := hrel
    obtain ⟨W, rfl⟩ : ∃ wo : World, wo = wr := ⟨_, rfl⟩
    by_cases hlt : j < L.length
    · have a1 : (j : Int) < (L.length : Int) := by omega
      obtain ⟨c, hc⟩ : ∃ c, Hid (L[j]'hlt = c) := ⟨_, Lib.hid rfl⟩
      have hsz : j < (bN L).size := hlt
      have hcb : (bN L)[j]'hsz = c := hc.out
      have hx : Hid (L[j]? = some c) := Lib.hid (by rw [List.getElem?_eq_getElem hlt, hc.out])
      obtain ⟨A, hA⟩ : ∃ A, Hid (L.take j = A) := ⟨_, Lib.hid rfl⟩
      obtain ⟨B, hBd⟩ : ∃ B, Hid (L.drop (j + 1) = B) := ⟨_, Lib.hid rfl⟩
      have e1 : (bN L).extract 0 j = bN A := by rw [bN_take, hA.out]
      have e2 : (bN L).extract (j + 1) L.length = bN B := by rw [bN_drop, hBd.out]
      have sA : A.length ≤ 1000000 := by rw [← hA.out, List.length_take]; omega
      have sB : B.length ≤ 1000000 := by rw [← hBd.out, List.length_drop]; omega
      have hW2 : Below W.heap.size W W.drew := (Below.refl _ _).drew
      have hB2 := hB.trans (hW2.mono hB.size)
      have kP2 := kP.below' hW2
      by_cases hm : c = 45 ∨ c = 120
      · have hidx : Lib.indexAny L [45, 120] = j := Lib.indexAny_hit hno.out hx.out (by rcases hm with rfl | rfl <;> decide)
        have hP : Hid (R = if c = 45 then (⟨A, B, [49]⟩, natB A && (natB B && ltB A B)) else (⟨B, B, A⟩, natB A && (natB B && ltB [49] A))) := by
          rw [Hid, ← hR.out]
          unfold rreadP
          rw [hidx]
          simp only [Int.toNat_natCast, hA.out, hBd.out, hx.out, Option.some.injEq]
          rw [if_neg (by omega)]
        have NA := Lib.hid (fun w' => rnumber_any A w' sA)
        have NB := Lib.hid (fun w' => rnumber_any B w' sB)
        clear hno hx hc hA hBd hidx hR
        by_cases h45 : c = 45
        · have b1 : ((c.toNat : Int) == 45) = true := by rw [h45]; rfl
          rw [if_pos h45] at hP
          have NL := Lib.hid (fun w' => rless_any A B w' (by omega) (by omega))
          clear h45 hm
          cases hnA : natB A
          · rw [hnA] at NA hP
            simp only [Bool.false_and] at hP
            go_wp2_with fail
            go_region
            go_wp2_with fail
            refine (NA.out _).mono ?_
            rintro e9 w3 ⟨rfl, hB3⟩
            have k3 := kP2.below' hB3
            have hb3 := hB2.trans (hB3.mono hB2.size)
            have f0 := k3.frozen 0
            have f1 := k3.frozen 1
            have f2 := k3.frozen 2
            have q0 := k3.cell 0 _ rfl
            have q1 := k3.cell 1 _ rfl
            have q2 := k3.cell 2 _ rfl
            have l0 := k3.lt
            go_wp2_with fail
            refine itc_ret2 rfl rfl (((k3.set_ 0 _).set_ 1 _).set_ 2 _) rfl ?_
            rw [hP.out]
            exact ⟨rfl, ((hb3.setCell (p := ⟨w.heap.size, 0, none⟩) (Nat.le_refl _) _).setCell (p := ⟨w.heap.size, 1, none⟩) (Nat.le_refl _) _).setCell (p := ⟨w.heap.size, 2, none⟩) (Nat.le_refl _) _⟩
          · rw [hnA] at NA hP
            simp only [Bool.true_and] at hP
            cases hnB : natB B
            · rw [hnB] at NB hP
              simp only [Bool.false_and] at hP
              go_wp2_with fail
              go_region
              go_wp2_with fail
              refine (NA.out _).mono ?_
              rintro e9 w3 ⟨rfl, hB3⟩
              go_wp2_with fail
              refine (NB.out _).mono ?_
              rintro e9 w4 ⟨rfl, hB4⟩
              have k3 := (kP2.below' hB3).below' hB4
              have hb3 := hB2.trans ((hB3.trans (hB4.mono hB3.size)).mono hB2.size)
              have f0 := k3.frozen 0
              have f1 := k3.frozen 1
              have f2 := k3.frozen 2
              have q0 := k3.cell 0 _ rfl
              have q1 := k3.cell 1 _ rfl
              have q2 := k3.cell 2 _ rfl
              have l0 := k3.lt
              go_wp2_with fail
              refine itc_ret2 rfl rfl (((k3.set_ 0 _).set_ 1 _).set_ 2 _) rfl ?_
              rw [hP.out]
              exact ⟨rfl, ((hb3.setCell (p := ⟨w.heap.size, 0, none⟩) (Nat.le_refl _) _).setCell (p := ⟨w.heap.size, 1, none⟩) (Nat.le_refl _) _).setCell (p := ⟨w.heap.size, 2, none⟩) (Nat.le_refl _) _⟩
            · rw [hnB] at NB hP
              simp only [Bool.true_and] at hP
              obtain ⟨lb, hlb⟩ : ∃ lb, Hid (ltB A B = lb) := ⟨_, Lib.hid rfl⟩
              rw [hlb.out] at NL hP
              clear hlb
              go_wp2_with fail
              go_region
              go_wp2_with fail
              refine (NA.out _).mono ?_
              rintro e9 w3 ⟨rfl, hB3⟩
              go_wp2_with fail
              refine (NB.out _).mono ?_
              rintro e9 w4 ⟨rfl, hB4⟩
              go_wp2_with fail
              refine (NL.out _).mono ?_
              rintro e9 w5 ⟨rfl, hB5⟩
              have k3 := ((kP2.below' hB3).below' hB4).below' hB5
              have hb4 := hB3.trans (hB4.mono hB3.size)
              have hb3 := hB2.trans ((hb4.trans (hB5.mono hb4.size)).mono hB2.size)
              have f0 := k3.frozen 0
              have f1 := k3.frozen 1
              have f2 := k3.frozen 2
              have q0 := k3.cell 0 _ rfl
              have q1 := k3.cell 1 _ rfl
              have q2 := k3.cell 2 _ rfl
              have l0 := k3.lt
              go_wp2_with fail
              refine itc_ret2 rfl rfl (((k3.set_ 0 _).set_ 1 _).set_ 2 _) rfl ?_
              rw [hP.out]
              exact ⟨rfl, ((hb3.setCell (p := ⟨w.heap.size, 0, none⟩) (Nat.le_refl _) _).setCell (p := ⟨w.heap.size, 1, none⟩) (Nat.le_refl _) _).setCell (p := ⟨w.heap.size, 2, none⟩) (Nat.le_refl _) _⟩
        · have b1 : ((c.toNat : Int) == 45) = false := by
            rw [beq_eq_false_iff_ne]; exact fun he => h45 (UInt8.toNat.inj (by show c.toNat = 45; omega))
          have b2 : ((c.toNat : Int) == 120) = true := by
            rcases hm with rfl | rfl
            · exact absurd rfl h45
            · rfl
          rw [if_neg h45] at hP
          have NL : Hid (∀ w', Calls Tryz.prog 23 #[.string ⟨#[49]⟩, .string (bN A)] w' (Ret (.bool (ltB [49] A)) w')) := Lib.hid (fun w' => rless_any [49] A w' (by decide) (by omega))
          clear h45 hm
          cases hnA : natB A
          · rw [hnA] at NA hP
            simp only [Bool.false_and] at hP
            go_wp2_with fail
            go_region
            go_wp2_with fail
            refine (NA.out _).mono ?_
            rintro e9 w3 ⟨rfl, hB3⟩
            have k3 := kP2.below' hB3
            have hb3 := hB2.trans (hB3.mono hB2.size)
            have f0 := k3.frozen 0
            have f1 := k3.frozen 1
            have f2 := k3.frozen 2
            have q0 := k3.cell 0 _ rfl
            have q1 := k3.cell 1 _ rfl
            have q2 := k3.cell 2 _ rfl
            have l0 := k3.lt
            go_wp2_with fail
            refine itc_ret2 rfl rfl (((k3.set_ 0 _).set_ 1 _).set_ 2 _) rfl ?_
            rw [hP.out]
            exact ⟨rfl, ((hb3.setCell (p := ⟨w.heap.size, 0, none⟩) (Nat.le_refl _) _).setCell (p := ⟨w.heap.size, 1, none⟩) (Nat.le_refl _) _).setCell (p := ⟨w.heap.size, 2, none⟩) (Nat.le_refl _) _⟩
          · rw [hnA] at NA hP
            simp only [Bool.true_and] at hP
            cases hnB : natB B
            · rw [hnB] at NB hP
              simp only [Bool.false_and] at hP
              go_wp2_with fail
              go_region
              go_wp2_with fail
              refine (NA.out _).mono ?_
              rintro e9 w3 ⟨rfl, hB3⟩
              go_wp2_with fail
              refine (NB.out _).mono ?_
              rintro e9 w4 ⟨rfl, hB4⟩
              have k3 := (kP2.below' hB3).below' hB4
              have hb3 := hB2.trans ((hB3.trans (hB4.mono hB3.size)).mono hB2.size)
              have f0 := k3.frozen 0
              have f1 := k3.frozen 1
              have f2 := k3.frozen 2
              have q0 := k3.cell 0 _ rfl
              have q1 := k3.cell 1 _ rfl
              have q2 := k3.cell 2 _ rfl
              have l0 := k3.lt
              go_wp2_with fail
              refine itc_ret2 rfl rfl (((k3.set_ 0 _).set_ 1 _).set_ 2 _) rfl ?_
              rw [hP.out]
              exact ⟨rfl, ((hb3.setCell (p := ⟨w.heap.size, 0, none⟩) (Nat.le_refl _) _).setCell (p := ⟨w.heap.size, 1, none⟩) (Nat.le_refl _) _).setCell (p := ⟨w.heap.size, 2, none⟩) (Nat.le_refl _) _⟩
            · rw [hnB] at NB hP
              simp only [Bool.true_and] at hP
              obtain ⟨lb, hlb⟩ : ∃ lb, Hid (ltB [49] A = lb) := ⟨_, Lib.hid rfl⟩
              rw [hlb.out] at NL hP
              clear hlb
              go_wp2_with fail
              go_region
              go_wp2_with fail
              refine (NA.out _).mono ?_
              rintro e9 w3 ⟨rfl, hB3⟩
              go_wp2_with fail
              refine (NB.out _).mono ?_
              rintro e9 w4 ⟨rfl, hB4⟩
              go_wp2_with fail
              refine (NL.out _).mono ?_
              rintro e9 w5 ⟨rfl, hB5⟩
              have k3 := ((kP2.below' hB3).below' hB4).below' hB5
              have hb4 := hB3.trans (hB4.mono hB3.size)
              have hb3 := hB2.trans ((hb4.trans (hB5.mono hb4.size)).mono hB2.size)
              have f0 := k3.frozen 0
              have f1 := k3.frozen 1
              have f2 := k3.frozen 2
              have q0 := k3.cell 0 _ rfl
              have q1 := k3.cell 1 _ rfl
              have q2 := k3.cell 2 _ rfl
              have l0 := k3.lt
              go_wp2_with fail
              refine itc_ret2 rfl rfl (((k3.set_ 0 _).set_ 1 _).set_ 2 _) rfl ?_
              rw [hP.out]
              exact ⟨rfl, ((hb3.setCell (p := ⟨w.heap.size, 0, none⟩) (Nat.le_refl _) _).setCell (p := ⟨w.heap.size, 1, none⟩) (Nat.le_refl _) _).setCell (p := ⟨w.heap.size, 2, none⟩) (Nat.le_refl _) _⟩
      · have hn45 : c ≠ 45 := fun e => hm (.inl e)
        have hn120 : c ≠ 120 := fun e => hm (.inr e)
        have b1 : ((c.toNat : Int) == 45) = false := by
          rw [beq_eq_false_iff_ne]; exact fun he => hn45 (UInt8.toNat.inj (by show c.toNat = 45; omega))
        have b2 : ((c.toNat : Int) == 120) = false := by
          rw [beq_eq_false_iff_ne]; exact fun he => hn120 (UInt8.toNat.inj (by show c.toNat = 120; omega))
        have hno2 := Lib.hid (hno.out.succ hx.out (by simp [hn45, hn120]))
        clear hm hn45 hn120 hno hx hc hA hBd hR
        go_wp2_with fail
        go_region
        go_wp2_with fail
        go_roundw
        case rel => exact ⟨j + 1, by omega, by go_num, hno2, hB2, kP2⟩
        case measure => simp [intOf]; omega
    · obtain rfl : j = L.length := by omega
      have hP : Hid (R = (⟨L, L, [49]⟩, natB L)) := by
        rw [Hid, ← hR.out]
        unfold rreadP
        rw [Lib.indexAny_none hno.out]
        rfl
      have NA := Lib.hid (fun w' => rnumber_any L w' hl)
      clear hno hR
      go_wp2_with fail
      refine (NA.out _).mono ?_
      rintro e9 w3 ⟨rfl, hB3⟩
      have k3 := kP.below' hB3
      have hb3 := hB.trans (hB3.mono hB.size)
      have f0 := k3.frozen 0
      have f1 := k3.frozen 1
      have f2 := k3.frozen 2
      have q0 := k3.cell 0 _ rfl
      have q1 := k3.cell 1 _ rfl
      have q2 := k3.cell 2 _ rfl
      have l0 := k3.lt
      go_wp2_with fail
      refine itc_ret2 rfl rfl (((k3.set_ 0 _).set_ 1 _).set_ 2 _) rfl ?_
      rw [hP.out]
      exact ⟨rfl, ((hb3.setCell (p := ⟨w.heap.size, 0, none⟩) (Nat.le_refl _) _).setCell (p := ⟨w.heap.size, 1, none⟩) (Nat.le_refl _) _).setCell (p := ⟨w.heap.size, 2, none⟩) (Nat.le_refl _) _⟩
end Go.Proofs.YtohcmfobnkaaiaaGreatDoor
