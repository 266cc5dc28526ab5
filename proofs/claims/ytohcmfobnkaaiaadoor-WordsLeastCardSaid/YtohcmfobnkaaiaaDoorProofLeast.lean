/-
Proved here: WordsLeastCardSaid: the text that List writes is the least.
Conditions: none beyond those that the given row and the given card print.
-/
import Derived.Test.YtohcmfobnkaaiaaDoorLawLeast
import Derived.Test.YtohcmfobnkaaiaaDoorLaid01
import Derived.Test.YtohcmfobnkaaiaaDoorOpen01
import Derived.Test.YtohcmfobnkaaiaaDoorCards
import Derived.Test.YtohcmfobnkaaiaaDoorTie
set_option linter.unusedSimpArgs false
set_option linter.unusedVariables false
namespace Go.Proofs.YtohcmfobnkaaiaaDoor.lawLeast
open Go Go.RowKit Tor Go.WideShapes Go.ChangeShapes Go.ChangeAt Go.Deep Go.Joins Go.ChangeMaps Go.Proofs.YtohcmfobnkaaiaaDoor

set_option maxRecDepth 100000 in
theorem lifted (os : Os) (started : os.Started) (H : Type) (enc : TypeId × Value → H) :
    ReturnsInHanded {} Tryd.checked os 3 .any (fun w args => (Rows.wordsLeastSpec.pre enc Tryd.prog Tryd.f3 Rows.wordsLeastRow.domain false w args ∧ laidMet Tryd.prog Rows.wordsLeastRow.laid w) ∧ sizedMet enc Tryd.prog Tryd.f3 (OpenSpec.ofChange Rows.wordsLeastSpec) false w args)
      (Rows.wordsLeastSpec.post enc Tryd.prog Tryd.f3 false true false false) := by
  refine wrap (C := Tryd.checked) (X := fun w _ => laidMet Tryd.prog Rows.wordsLeastRow.laid w) (fun _ _ _ hh h => h.of_heap hh) Go.Proofs.YtohcmfobnkaaiaaDoor.own started (by kernel_rfl) Tryd.func3
    (ChangeSpec.witness_shaped (enc := enc) (C := Tryd.checked) (os := os) (X := fun w _ => laidMet Tryd.prog Rows.wordsLeastRow.laid w) false (World.laidAll Tryd.prog os Rows.wordsLeastRow.laid) #[.string ⟨#[]⟩] 8 (World.laidAll_os _ _ _)
      (World.shaped_of_ZipB (by kernel_rfl) (by kernel_rfl)) (by kernel_rfl) (by kernel_rfl) (by kernel_rfl)
      (laidMet_laidAll _ (by kernel_rfl) (by kernel_rfl))) ?_
  intro W base args ds gs before hval hW hL hsh
  have hW' := hW
  obtain ⟨p, q, hA0, hV, rfl, hfz, hnd⟩ := hW
  have hA : DataW.TrodAll enc Tryd.prog W 0 (fun _ => true) true Tryd.f3.params.toList args.toList ds p := hA0
  rw [Tryd.params3] at hA hval
  obtain ⟨rfl, rfl⟩ := trodVars_none hV
  obtain ⟨v0, d0, rfl, rfl, h0⟩ := trodAll_one hA
  obtain ⟨s, rfl, rfl, rfl, hs⟩ := open_string Tryd.underlying9 (hval 0 9 v0 rfl rfl) h0
  clear hA0
  have hWd : WdAt W := wd_of_laid hsh hL
  have HC : Calls Tryd.prog 3 #[.string s] W (Ret (.bool true) W) := by
    have := lawLeast_any s.data.toList W hWd
    rw [bN_self] at this
    exact this
  refine (HC).mono fun e W' ⟨he, hB⟩ => ?_
  subst he
  refine ⟨_, rfl, post_of_below (pa := []) (pv := []) hW' (fun _ _ _ => ?_) (fun sp hsp => ?_) (fun _ _ => rfl) (by simp) hB (ok_one (by kernel_rfl) rfl (okWide_bool_mk Tryd.underlying4 _))⟩
  · exact trodAll_mk1 (shut_bool Tryd.underlying4 _)
  · exact trodAll_mk1 (shut_string Tryd.underlying9 hs)

theorem row_holds : Rows.WordsLeastSaid :=
  OpenClaim.holds_of_wide 3 Tryd.f3 rfl rfl rfl rfl rfl rfl rfl ⟨rfl, rfl, rfl, rfl, rfl⟩ rfl rfl rfl rfl rfl (by kernel_rfl) Tryd.func3 (by kernel_rfl)
    (of_decide_eq_true (by kernel_rfl)) (by unfold Func.isWrapper; first | (rw [if_pos (by decide +kernel)]; kernel_rfl) | (rw [if_neg (by decide +kernel)]; exact ⟨rfl, rfl⟩))
    (fun os started H enc _ => lifted os started H enc)

theorem proved : Rows.WordsLeastCardSaid :=
  Claim7.holds_tied_plain_at .later [] [.data, .data, .data, .data, .sentinel, .sentinel, .data, .pinned] true (true, "4b481e37c9b6e8c176e096283b069f72b2b8c6c7de9c4d184fcfef062f856bc6") true
    row_holds (fun _ h => by cases h) (by kernel_rfl) (fun _ h => by cases h) wordsLeast_row_tie rfl ⟨rfl, rfl⟩ (by kernel_rfl) rfl
    (fun f fn hf hfn => by
      obtain rfl : f = 3 := Option.some.inj ((show Tryd.prog.funcNamed "torchon/torchonlaw01.WordsLeast" = some 3 by kernel_rfl).symm.trans hf) |>.symm
      obtain rfl : fn = Tryd.f3 := (Option.some.inj (Tryd.func3.symm.trans hfn)).symm
      exact ⟨by kernel_rfl, fun j t ht => by
        rw [Tryd.params3] at ht
        rcases j with _ | j
        · simp at ht; subst ht; first | decide +kernel | kernel_rfl
        · simp at ht⟩)
    (by kernel_rfl)
#print axioms proved
end Go.Proofs.YtohcmfobnkaaiaaDoor.lawLeast
