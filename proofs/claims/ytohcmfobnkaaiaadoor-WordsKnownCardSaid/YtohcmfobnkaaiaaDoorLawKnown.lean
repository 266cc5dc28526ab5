/- torchonlaw01: WordsKnown. -/
import Derived.Test.YtohcmfobnkaaiaaDoorShow01
set_option linter.unusedSimpArgs false
set_option linter.unusedVariables false
namespace Go.Proofs.YtohcmfobnkaaiaaDoor
open Go Go.RowKit Tor

def knL : Nat → List Int
  | 0 => [4, 4, 4, 4] | 1 => [1, 2] | 2 => [10, 10] | 3 => [0, 0] | 4 => [] | 5 => [10000] | _ => [-1]
def knT : Nat → List UInt8
  | 0 => [52, 120, 52] | 1 => [49, 44, 50] | 2 => [50, 120, 49, 48] | 3 => [48, 44, 48] | _ => []
def knE (j : Nat) : Int := if j < 5 then 0 else 7
theorem kn_list : ∀ j, j < 7 → listP (knL j) = (knT j, knE j) := by decide
def knW : Nat → List UInt8
  | 0 => [49, 44, 44, 50] | 1 => [51, 45, 51] | 2 => [49, 120, 52] | 3 => [49, 48, 48, 48, 48] | _ => [53, 48, 49, 120, 48]
def knF : Nat → Int
  | 0 => 6 | 1 => 6 | 2 => 6 | 3 => 7 | _ => 3
theorem kn_parse : ∀ j, j < 5 → parseP (knW j) = ([], knF j) := by decide
theorem kn_unq : unqP [34, 97] = ([], 6) := by decide
theorem kn_split1 : splitP [97, 32, 32, 98] = ([], 6) := by decide
theorem kn_split2 : splitP [97, 34, 98] = ([], 6) := by decide
theorem kn_int : intW [53] 9 0 = (0, 2) := by decide
theorem kn_ascii : ∀ j, j < 5 → ∀ t ∈ Lib.split (knW j) [44], t.length ≤ 4000000 ∧ ∀ b ∈ t, b.toNat < 128 := by decide
def slV (s j : Nat) : Value := if j = 4 then .slice none 0 0 else .slice (some ⟨s + (if j < 4 then j else j - 1), 0, none⟩) (knL j).length (knL j).length

theorem blk_fold : ∀ (os : List Obj) (w : World) (i : Nat) (cs : Array Value) (t : TypeId), os[i]? = some (.cells cs t) → Blk (os.foldl World.alloc w) (w.heap.size + i) t cs
  | [], w, i, cs, t, h => by simp at h
  | o :: r, w, 0, cs, t, h => by
    simp at h
    subst h
    have key : ∀ (r : List Obj) (W : World) (g : Nat), Blk W g t cs → Blk (r.foldl World.alloc W) g t cs := by
      intro r
      induction r with
      | nil => exact fun W g h => h
      | cons o r ih => exact fun W g h => ih _ g (h.alloc o)
    exact key r _ _ (Blk.new w t cs)
  | o :: r, w, i + 1, cs, t, h => by
    have := blk_fold r (w.alloc o) i cs t (by simpa using h)
    rw [World.size_alloc] at this
    rw [show w.heap.size + (i + 1) = w.heap.size + 1 + i by omega]
    exact this
theorem below_fold : ∀ (os : List Obj) (w : World), Below w.heap.size w (os.foldl World.alloc w)
  | [], w => Below.refl _ _
  | o :: r, w => ((Below.refl _ _).alloc (Nat.le_refl _) o).trans ((below_fold r (w.alloc o)).mono (by simp))
def knOs (s : Nat) : List Obj := [.cells #[.int .i64 4, .int .i64 4, .int .i64 4, .int .i64 4] 3, .cells #[.int .i64 1, .int .i64 2] 3, .cells #[.int .i64 10, .int .i64 10] 3, .cells #[.int .i64 0, .int .i64 0] 3, .cells #[.int .i64 10000] 3, .cells #[.int .i64 (-1)] 3,
  .cells #[slV s 0, slV s 1, slV s 2, slV s 3, slV s 4, slV s 5, slV s 6] 33, .cells #[.string (bN (knT 0)), .string (bN (knT 1)), .string (bN (knT 2)), .string (bN (knT 3)), .string (bN (knT 4)), .string (bN (knT 5)), .string (bN (knT 6))] 34]
theorem kn_call {w W0 W : World} (hW0 : W0 = (knOs w.heap.size).foldl World.alloc w) (hb : Below W0.heap.size W0 W) (h : WdAt w) (j : Nat) (hj : j < 7) :
    Calls Tryd.prog 14 #[slV w.heap.size j] W (Ret (.tuple #[.string (bN (knT j)), .int .i64 (knE j)]) W) := by
  have hWd : WdAt W := (h.below (by rw [hW0]; exact below_fold _ _)).below hb
  have key : ∀ (i : Nat) (A : Option Addr) (c : Nat), A = some ⟨w.heap.size + i, 0, none⟩ → Blk W0 (w.heap.size + i) 3 ((knL j).flatMap ienc).toArray → slV w.heap.size j = .slice A (knL j).length (knL j).length → (knL j).length ≤ 1000 →
      Calls Tryd.prog 14 #[slV w.heap.size j] W (Ret (.tuple #[.string (bN (knT j)), .int .i64 (knE j)]) W) := fun i A c hA hk hs hl => by
    subst hA
    have hr := rd_new int_len (knL j) (by omega) hk
    have := wlist_any _ (knL j) (knL j).length W ((hr.below' hb (Nat.le_refl _)).more hb.size) (by omega) (Nat.le_refl _) hWd
    rw [kn_list j hj] at this
    rw [hs]
    exact this
  rcases (show j = 0 ∨ j = 1 ∨ j = 2 ∨ j = 3 ∨ j = 4 ∨ j = 5 ∨ j = 6 by omega) with rfl | rfl | rfl | rfl | rfl | rfl | rfl
  · exact key 0 _ 0 rfl (by rw [hW0]; exact blk_fold _ _ 0 _ _ rfl) rfl (by decide)
  · exact key 1 _ 0 rfl (by rw [hW0]; exact blk_fold _ _ 1 _ _ rfl) rfl (by decide)
  · exact key 2 _ 0 rfl (by rw [hW0]; exact blk_fold _ _ 2 _ _ rfl) rfl (by decide)
  · exact key 3 _ 0 rfl (by rw [hW0]; exact blk_fold _ _ 3 _ _ rfl) rfl (by decide)
  · have := wlist_any none [] 0 W Rd.nil (by decide) (Nat.le_refl _) hWd
    rw [show listP [] = ([], 0) from rfl] at this
    exact this
  · exact key 4 _ 0 rfl (by rw [hW0]; exact blk_fold _ _ 4 _ _ rfl) rfl (by decide)
  · exact key 5 _ 0 rfl (by rw [hW0]; exact blk_fold _ _ 5 _ _ rfl) rfl (by decide)

set_option maxRecDepth 100000 in
set_option maxHeartbeats 4000000 in
theorem lawKnown_any (w : World) (h : WdAt w) : Calls Tryd.prog 6 #[] w (Ret (.bool true) w) := by
  have HS := Lib.hid (fun (w' : World) (hw : WdAt w') => shown_any w' hw)
  obtain ⟨W0, hW0⟩ : ∃ W0, Hid (W0 = (knOs w.heap.size).foldl World.alloc w) := ⟨_, Lib.hid rfl⟩
  have kA : Blk W0 (w.heap.size + 6) 33 #[slV w.heap.size 0, slV w.heap.size 1, slV w.heap.size 2, slV w.heap.size 3, slV w.heap.size 4, slV w.heap.size 5, slV w.heap.size 6] := by rw [hW0.out]; exact blk_fold _ _ 6 _ _ rfl
  have kT : Blk W0 (w.heap.size + 7) 34 #[.string (bN (knT 0)), .string (bN (knT 1)), .string (bN (knT 2)), .string (bN (knT 3)), .string (bN (knT 4)), .string (bN (knT 5)), .string (bN (knT 6))] := by rw [hW0.out]; exact blk_fold _ _ 7 _ _ rfl
  have hB0 : Below w.heap.size w W0 := by rw [hW0.out]; exact below_fold _ _
  have H1 := Lib.hid (fun (W : World) (hb : Below W0.heap.size W0 W) (j : Nat) (hj : j < 7) => kn_call hW0.out hb h j hj)
  have cA : Hid (∀ j, j < 7 → W0.cell? ⟨w.heap.size + 6, j, none⟩ = some (slV w.heap.size j)) := Lib.hid (fun j hj => kA.cell j _ (by
    rcases (show j = 0 ∨ j = 1 ∨ j = 2 ∨ j = 3 ∨ j = 4 ∨ j = 5 ∨ j = 6 by omega) with rfl | rfl | rfl | rfl | rfl | rfl | rfl <;> rfl))
  have cT : Hid (∀ j, j < 7 → W0.cell? ⟨w.heap.size + 7, j, none⟩ = some (.string (bN (knT j)))) := Lib.hid (fun j hj => kT.cell j _ (by
    rcases (show j = 0 ∨ j = 1 ∨ j = 2 ∨ j = 3 ∨ j = 4 ∨ j = 5 ∨ j = 6 by omega) with rfl | rfl | rfl | rfl | rfl | rfl | rfl <;> rfl))
  have lA := kA.lt
  have lT := kT.lt
  go_enter Tryd.func6, Tryd.ntmps6
  go_wp2_with fail
  have hWe : ∀ X : World, X = W0 → X = W0 := fun _ h => h
  go_loopw [3] (fun i wr => ∃ j : Nat, j ≤ 7 ∧ i = .int .i64 j ∧ Below W0.heap.size W0 wr) (fun i _ => 7 - (intOf i).toNat)
  case atStart => exact ⟨0, by omega, rfl, by rw [hW0.out]; exact Below.refl _ _⟩
  case round =>
    clear kA kT
    obtain ⟨j, hj, rfl, hB⟩ := hrel
    by_cases hlt : j < 7
    · have a1 : (j : Int) < 7 := by omega
      have q1 := (hB.cell (p := ⟨w.heap.size + 6, j, none⟩) lA).trans (cA.out j hlt)
      have q2 := (hB.cell (p := ⟨w.heap.size + 7, j, none⟩) lT).trans (cT.out j hlt)
      have HC := Lib.hid (H1.out wr hB j hlt)
      obtain ⟨T, hT⟩ : ∃ T, Hid (knT j = T) := ⟨_, Lib.hid rfl⟩
      obtain ⟨V, hV⟩ : ∃ T, Hid (slV w.heap.size j = T) := ⟨_, Lib.hid rfl⟩
      rw [hT.out] at HC q2
      rw [hV.out] at HC q1
      have tT : (bN T).toList = T := Lib.toList_data _
      by_cases h5 : j < 5
      · have i5 : (j : Int) < 5 := by omega
        rw [show knE j = 0 by unfold knE; rw [if_pos h5]] at HC
        clear h5 hT hV
        go_wp2_with (first
          | (go_at_call 14; refine HC.out.mono ?_; rintro e w1 ⟨rfl, hB1⟩
             have q3 := (hB1.cell (p := ⟨w.heap.size + 7, j, none⟩) (Nat.lt_of_lt_of_le lT hB.size)).trans q2)
          | fail)
        go_roundw
        case rel => exact ⟨j + 1, by omega, by go_num, hB.trans (hB1.mono hB.size)⟩
        case measure => simp [intOf]; omega
      · have i5 : ¬ (j : Int) < 5 := by omega
        rw [show knE j = 7 by unfold knE; rw [if_neg h5]] at HC
        clear h5 hT hV
        go_wp2_with (first
          | (go_at_call 14; refine HC.out.mono ?_; rintro e w1 ⟨rfl, hB1⟩
             have q3 := (hB1.cell (p := ⟨w.heap.size + 7, j, none⟩) (Nat.lt_of_lt_of_le lT hB.size)).trans q2)
          | fail)
        go_roundw
        case rel => exact ⟨j + 1, by omega, by go_num, hB.trans (hB1.mono hB.size)⟩
        case measure => simp [intOf]; omega
    · have a1 : ¬ (j : Int) < 7 := by omega
      have hq := hB0.trans (hB.mono hB0.size)
      obtain ⟨wa, rfl⟩ : ∃ wo : World, wo = wr := ⟨_, rfl⟩
      clear H1 cA cT lA lT hWe
      go_wp2_with fail
      obtain ⟨w2, hw2⟩ : ∃ w2, (wa.alloc (.cells #[.string (bN (knW 0)), .string (bN (knW 1)), .string (bN (knW 2)), .string (bN (knW 3)), .string (bN (knW 4))] 35)).alloc (.cells #[.int .i64 6, .int .i64 6, .int .i64 6, .int .i64 7, .int .i64 3] 36) = w2 := ⟨_, rfl⟩
      have kW : Blk w2 wa.heap.size 35 #[.string (bN (knW 0)), .string (bN (knW 1)), .string (bN (knW 2)), .string (bN (knW 3)), .string (bN (knW 4))] := by rw [← hw2]; exact (Blk.new wa _ _).alloc _
      have kE : Blk w2 (wa.heap.size + 1) 36 #[.int .i64 6, .int .i64 6, .int .i64 6, .int .i64 7, .int .i64 3] := by
        rw [← hw2]
        have := Blk.new (wa.alloc (.cells #[.string (bN (knW 0)), .string (bN (knW 1)), .string (bN (knW 2)), .string (bN (knW 3)), .string (bN (knW 4))] 35)) 36 #[.int .i64 6, .int .i64 6, .int .i64 6, .int .i64 7, .int .i64 3]
        rw [World.size_alloc] at this; exact this
      have hB2 : Below wa.heap.size wa w2 := by rw [← hw2]; exact ((Below.refl _ _).alloc (Nat.le_refl _) _).alloc (by simp) _
      have cW : Hid (∀ j, j < 5 → w2.cell? ⟨wa.heap.size, j, none⟩ = some (.string (bN (knW j)))) := Lib.hid (fun j hj => kW.cell j _ (by
        rcases (show j = 0 ∨ j = 1 ∨ j = 2 ∨ j = 3 ∨ j = 4 by omega) with rfl | rfl | rfl | rfl | rfl <;> rfl))
      have cE : Hid (∀ j, j < 5 → w2.cell? ⟨wa.heap.size + 1, j, none⟩ = some (.int .i64 (knF j))) := Lib.hid (fun j hj => kE.cell j _ (by
        rcases (show j = 0 ∨ j = 1 ∨ j = 2 ∨ j = 3 ∨ j = 4 by omega) with rfl | rfl | rfl | rfl | rfl <;> rfl))
      have lW := kW.lt
      have lE := kE.lt
      have hq2 := hq.trans (hB2.mono hq.size)
      go_loopw [8] (fun i wr => ∃ j : Nat, j ≤ 5 ∧ i = .int .i64 j ∧ Below w2.heap.size w2 wr) (fun i _ => 5 - (intOf i).toNat)
      case atStart => exact ⟨0, by omega, rfl, by rw [← hw2]; exact Below.refl _ _⟩
      case round =>
        clear kW kE hB hw2
        obtain ⟨j, hj, rfl, hB⟩ := hrel
        have hqj := hq2.trans (hB.mono hq2.size)
        have hWj := h.below hqj
        by_cases hlt : j < 5
        · have a1 : (j : Int) < 5 := by omega
          have q1 := (hB.cell (p := ⟨wa.heap.size, j, none⟩) lW).trans (cW.out j hlt)
          have q2 := (hB.cell (p := ⟨wa.heap.size + 1, j, none⟩) lE).trans (cE.out j hlt)
          have HC := Lib.hid (parse_any (knW j) wr (by
            rcases (show j = 0 ∨ j = 1 ∨ j = 2 ∨ j = 3 ∨ j = 4 by omega) with rfl | rfl | rfl | rfl | rfl <;> decide) hWj (fun t ht => okIdx_ascii t (kn_ascii j hlt t ht).1 (kn_ascii j hlt t ht).2))
          rw [kn_parse j hlt] at HC
          obtain ⟨T, hT⟩ : ∃ T, Hid (knW j = T) := ⟨_, Lib.hid rfl⟩
          obtain ⟨F, hF⟩ : ∃ T, Hid (knF j = T) := ⟨_, Lib.hid rfl⟩
          rw [hF.out] at q2
          simp only at HC
          rw [hT.out, hF.out] at HC
          rw [hT.out] at q1
          clear hT hF
          go_wp2_with (first
            | (go_at_call 13; refine HC.out.mono ?_; rintro e w1 ⟨v, rfl, ho1, hB1⟩
               obtain ⟨A1, c1, rfl, _, _⟩ := Tor.Own.rd int_len ho1
               have q3 := (hB1.cell (p := ⟨wa.heap.size + 1, j, none⟩) (Nat.lt_of_lt_of_le lE hB.size)).trans q2)
            | fail)
          go_roundw
          case rel => exact ⟨j + 1, by omega, by go_num, hB.trans (hB1.mono hB.size)⟩
          case measure => simp [intOf]; omega
        · obtain rfl : j = 5 := by omega
          clear cW cE lW lE
          have H2 := Lib.hid (fun (W : World) (hW : WdAt W) => (by
            have := unquote_any [34, 97] W (by decide) hW
            rw [kn_unq] at this
            exact this :
            Calls Tryd.prog 18 #[.string ⟨#[34, 97]⟩] W (Ret (.tuple #[.string ⟨#[]⟩, .int .i64 6]) W)))
          have H3 := Lib.hid (fun (W : World) (hW : WdAt W) => (by
            have := wsplit_any [97, 32, 32, 98] W (by decide) hW
            rw [kn_split1] at this
            exact this :
            Calls Tryd.prog 20 #[.string ⟨#[97, 32, 32, 98]⟩] W (FldsRet W [] 6)))
          have H4 := Lib.hid (fun (W : World) (hW : WdAt W) => (by
            have := wsplit_any [97, 34, 98] W (by decide) hW
            rw [kn_split2] at this
            exact this :
            Calls Tryd.prog 20 #[.string ⟨#[97, 34, 98]⟩] W (FldsRet W [] 6)))
          have H5 := Lib.hid (fun (W : World) (hW : WdAt W) => (by
            have := wint_any (bN [53]) 9 0 W (by decide) hW.err
            rw [show (bN [53]).data.toList = [53] from rfl, kn_int] at this
            exact this :
            Calls Tryd.prog 21 #[.string ⟨#[53]⟩, .int .i64 9, .int .i64 0] W (Ret (.tuple #[.int .i64 0, .int .i64 2]) W)))
          go_wp2_with fail
          refine (H2.out _ hWj).mono ?_
          rintro e w3 ⟨rfl, hB3⟩
          have q3 := hqj.trans (hB3.mono hqj.size)
          go_wp2_with fail
          refine (H3.out _ (h.below q3)).mono ?_
          rintro e w4 ⟨v4, rfl, ho4, hB4⟩
          obtain ⟨A4, c4, rfl, _, _⟩ := Tor.Own.rd fenc_len ho4
          have q4 := q3.trans (hB4.mono q3.size)
          go_wp2_with fail
          refine (H4.out _ (h.below q4)).mono ?_
          rintro e w5 ⟨v5, rfl, ho5, hB5⟩
          obtain ⟨A5, c5, rfl, _, _⟩ := Tor.Own.rd fenc_len ho5
          have q5 := q4.trans (hB5.mono q4.size)
          go_wp2_with fail
          refine (H5.out _ (h.below q5)).mono ?_
          rintro e w6 ⟨rfl, hB6⟩
          have q6 := q5.trans (hB6.mono q5.size)
          go_wp2_with fail
          refine (HS.out _ (h.below q6)).mono ?_
          rintro e w7 ⟨rfl, hB7⟩
          go_wp2_with fail
          go_ret
          exact ⟨rfl, q6.trans (hB7.mono q6.size)⟩
end Go.Proofs.YtohcmfobnkaaiaaDoor
