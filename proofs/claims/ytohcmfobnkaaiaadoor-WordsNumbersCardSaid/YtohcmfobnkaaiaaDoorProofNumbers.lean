/-
Proved here: WordsNumbersCardSaid: numbers are written and read as the document says.
Conditions: none beyond those that the given row and the given card print.
-/
import Derived.Test.YtohcmfobnkaaiaaDoorLawNumbers
import Derived.Test.YtohcmfobnkaaiaaDoorLaid01
import Derived.Test.YtohcmfobnkaaiaaDoorOpen01
import Derived.Test.YtohcmfobnkaaiaaDoorCards
import Derived.Test.YtohcmfobnkaaiaaDoorTie
set_option linter.unusedSimpArgs false
set_option linter.unusedVariables false
namespace Go.Proofs.YtohcmfobnkaaiaaDoor.lawNumbers
open Go Go.RowKit Tor Go.WideShapes Go.ChangeShapes Go.ChangeAt Go.Deep Go.Joins Go.ChangeMaps Go.Proofs.YtohcmfobnkaaiaaDoor

set_option maxRecDepth 100000 in
theorem lifted (os : Os) (started : os.Started) (H : Type) (enc : TypeId × Value → H) :
    ReturnsInHanded {} Tryd.checked os 7 .any (fun w args => (Rows.wordsNumbersSpec.pre enc Tryd.prog Tryd.f7 Rows.wordsNumbersRow.domain false w args ∧ laidMet Tryd.prog Rows.wordsNumbersRow.laid w) ∧ sizedMet enc Tryd.prog Tryd.f7 (OpenSpec.ofChange Rows.wordsNumbersSpec) false w args)
      (Rows.wordsNumbersSpec.post enc Tryd.prog Tryd.f7 false true false false) := by
  refine wrap (C := Tryd.checked) (X := fun w _ => laidMet Tryd.prog Rows.wordsNumbersRow.laid w) (fun _ _ _ hh h => h.of_heap hh) Go.Proofs.YtohcmfobnkaaiaaDoor.own started (by kernel_rfl) Tryd.func7
    (ChangeSpec.witness_shaped (enc := enc) (C := Tryd.checked) (os := os) (X := fun w _ => laidMet Tryd.prog Rows.wordsNumbersRow.laid w) false (World.laidAll Tryd.prog os Rows.wordsNumbersRow.laid) #[.int .i64 0, .agg #[.string ⟨#[]⟩, .int .i64 0, .int .i64 0]] 8 (World.laidAll_os _ _ _)
      (World.shaped_of_ZipB (by kernel_rfl) (by kernel_rfl)) (by kernel_rfl) (by kernel_rfl) (by kernel_rfl)
      (laidMet_laidAll _ (by kernel_rfl) (by kernel_rfl))) ?_
  intro W base args ds gs before hval hW hL hsh
  have hW' := hW
  obtain ⟨p, q, hA0, hV, rfl, hfz, hnd⟩ := hW
  have hA : DataW.TrodAll enc Tryd.prog W 0 (fun _ => true) true Tryd.f7.params.toList args.toList ds p := hA0
  rw [Tryd.params7] at hA hval
  obtain ⟨rfl, rfl⟩ := trodVars_none hV
  obtain ⟨v0, v1, d0, d1, p0, p1, rfl, rfl, rfl, h0, h1⟩ := trodAll_two hA
  obtain ⟨n, rfl, rfl, rfl, wn⟩ := open_int Tryd.underlying2 (hval 0 2 v0 rfl rfl) h0
  obtain ⟨u0, u1, u2, y0, y1, y2, m, rfl, hd1, hp1, r0, r1, r2⟩ := open_agg3 Tryd.underlying43 (by kernel_rfl) (by kernel_rfl) (hval 1 43 v1 rfl rfl) h1
  obtain ⟨s, e0, _, _⟩ := DataW.trod_string Tryd.underlying9 r0
  obtain ⟨a, e1, _, _⟩ := DataW.trod_int Tryd.underlying2 r1
  obtain ⟨b, e2, _, _⟩ := DataW.trod_int Tryd.underlying2 r2
  simp only [List.cons.injEq, and_true] at e0 e1 e2
  subst e0 e1 e2
  have hnb : -9223372036854775808 ≤ n ∧ n ≤ 9223372036854775807 := by
    have hh : (decide (IntKind.min .i64 ≤ n) && decide (n ≤ IntKind.max .i64)) = true := wn
    rw [Bool.and_eq_true, decide_eq_true_eq, decide_eq_true_eq] at hh
    rw [show IntKind.min .i64 = -9223372036854775808 by decide, show IntKind.max .i64 = 9223372036854775807 by decide] at hh
    exact hh
  clear hA0
  simp only [List.append_nil, List.nil_append] at hW'
  have hWd : WdAt W := wd_of_laid hsh hL
  have HC : Calls Tryd.prog 7 #[.int .i64 n, .agg #[.string s, .int .i64 a, .int .i64 b]] W (Ret (.bool true) W) := by
    have := lawNumbers_any n s.data.toList a b hnb.1 hnb.2 W hWd
    rw [bN_self] at this
    exact this
  have hlt : ∀ x ∈ p1, x.block < W.heap.size := fun x hx => hW'.lt x (by simpa using hx)
  refine (HC).mono fun e W' ⟨he, hB⟩ => ?_
  subst he
  refine ⟨_, rfl, post_of_below (pa := p1) (pv := []) hW' (fun _ _ _ => ?_) (fun sp hsp => ?_) (fun _ _ => rfl) (by simp) hB (ok_one (by kernel_rfl) rfl (okWide_bool_mk Tryd.underlying4 _))⟩
  · exact trodAll_mk1 (shut_bool Tryd.underlying4 _)
  · have hk := WideElems.Trod_stays laidOut' (by kernel_rfl) (of_decide_eq_true (by kernel_rfl)) h1 (fun x hx => hB.same (hlt x hx)) (fun x hx => hsp x (by simpa using hx)) (W' := W') (sp' := sp)
    have h2 := trodAll_mk2 (shut_int Tryd.underlying2 wn) hk
    rw [List.nil_append] at h2
    exact h2

theorem row_holds : Rows.WordsNumbersSaid :=
  OpenClaim.holds_of_wide 7 Tryd.f7 rfl rfl rfl rfl rfl rfl rfl ⟨rfl, rfl, rfl, rfl, rfl⟩ rfl rfl rfl rfl rfl (by kernel_rfl) Tryd.func7 (by kernel_rfl)
    (of_decide_eq_true (by kernel_rfl)) (by unfold Func.isWrapper; first | (rw [if_pos (by decide +kernel)]; kernel_rfl) | (rw [if_neg (by decide +kernel)]; exact ⟨rfl, rfl⟩))
    (fun os started H enc _ => lifted os started H enc)

theorem proved : Rows.WordsNumbersCardSaid :=
  Claim7.holds_tied_plain_at .later [] [.data, .data, .data, .data, .sentinel, .sentinel, .data, .pinned] true (true, "4b481e37c9b6e8c176e096283b069f72b2b8c6c7de9c4d184fcfef062f856bc6") true
    row_holds (fun _ h => by cases h) (by kernel_rfl) (fun _ h => by cases h) wordsNumbers_row_tie rfl ⟨rfl, rfl⟩ (by kernel_rfl) rfl
    (fun f fn hf hfn => by
      obtain rfl : f = 7 := Option.some.inj ((show Tryd.prog.funcNamed "torchon/torchonlaw01.WordsNumbers" = some 7 by kernel_rfl).symm.trans hf) |>.symm
      obtain rfl : fn = Tryd.f7 := (Option.some.inj (Tryd.func7.symm.trans hfn)).symm
      exact ⟨by kernel_rfl, fun j t ht => by
        rw [Tryd.params7] at ht
        rcases j with _ | _ | j
        · simp at ht; subst ht; first | decide +kernel | kernel_rfl
        · simp at ht; subst ht; first | decide +kernel | kernel_rfl
        · simp at ht⟩)
    (by kernel_rfl)
#print axioms proved
end Go.Proofs.YtohcmfobnkaaiaaDoor.lawNumbers
