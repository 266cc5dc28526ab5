/-
Proved here: CompileTextsCardSaid: instructions are printed and read as the document says.
Conditions: none beyond those that the given row and the given card print.
-/
import Derived.Test.YtmfklcnocekdlaaGreatDoorLawCpTxt
import Derived.Test.YtmfklcnocekdlaaGreatDoorLaid3
import Derived.Test.YtmfklcnocekdlaaGreatDoorOpen3
import Derived.Test.YtmfklcnocekdlaaGreatDoorCards
import Derived.Test.YtmfklcnocekdlaaGreatDoorTie
set_option linter.unusedSimpArgs false
set_option linter.unusedVariables false
namespace Go.Proofs.YtmfklcnocekdlaaGreatDoor.lawTexts
open Go Go.RowKit Tor Go.WideShapes Go.ChangeShapes Go.ChangeAt Go.Deep Go.Joins Go.ChangeMaps Go.Proofs.YtmfklcnocekdlaaGreatDoor

set_option maxRecDepth 100000 in
set_option maxHeartbeats 1000000 in
theorem lifted (os : Os) (started : os.Started) (H : Type) (enc : TypeId × Value → H) :
    ReturnsInHanded {} Tryz.checked os 3 .any (fun w args => (Rows.compileTextsSpec.pre enc Tryz.prog Tryz.f3 Rows.compileTextsRow.domain false w args ∧ laidMet Tryz.prog Rows.compileTextsRow.laid w) ∧ sizedMet enc Tryz.prog Tryz.f3 (OpenSpec.ofChange Rows.compileTextsSpec) false w args)
      (Rows.compileTextsSpec.post enc Tryz.prog Tryz.f3 false true false false) := by
  refine wrap (C := Tryz.checked) (X := fun w _ => laidMet Tryz.prog Rows.compileTextsRow.laid w) (fun _ _ _ hh h => h.of_heap hh) Go.Proofs.YtmfklcnocekdlaaGreatDoor.own started (by kernel_rfl) Tryz.func3
    (ChangeSpec.witness_shaped (enc := enc) (C := Tryz.checked) (os := os) (X := fun w _ => laidMet Tryz.prog Rows.compileTextsRow.laid w) false (World.laidAll Tryz.prog os Rows.compileTextsRow.laid) #[.slice none 0 0, .string ⟨#[]⟩] 8 (World.laidAll_os _ _ _)
      (World.shaped_of_ZipB (by kernel_rfl) (by kernel_rfl)) (by kernel_rfl) (by kernel_rfl) (by kernel_rfl)
      (laidMet_laidAll _ (by kernel_rfl) (by kernel_rfl))) ?_
  intro W base args ds gs before hval hW hL hsh
  have hW' := hW
  obtain ⟨p, q, hA0, hV, rfl, hfz, hnd⟩ := hW
  have hA : DataW.TrodAll enc Tryz.prog W 0 (fun _ => true) true Tryz.f3.params.toList args.toList ds p := hA0
  rw [Tryz.params3] at hA hval
  obtain ⟨rfl, rfl⟩ := trodVars_none hV
  obtain ⟨v0, v1, d0, d1, p0, p1, rfl, rfl, rfl, h0, h1⟩ := trodAll_two hA
  obtain ⟨f2, hf2⟩ := id h0
  obtain ⟨A, l, c, e2, hr, hlc, hc, hs⟩ := triples Tryz.underlying22 Tryz.underlying52 (by kernel_rfl) cellsStep Tryz.underlying3 Tryz.underlying3 Tryz.underlying9 hf2
  obtain ⟨q0, q1, q2, rfl⟩ := okWide_slice Tryz.underlying22 (hval 0 22 v0 rfl rfl)
  simp [Value.cells] at e2
  obtain ⟨rfl, rfl, rfl⟩ := e2
  obtain ⟨s, rfl, rfl, rfl, ws⟩ := open_string Tryz.underlying9 (hval 1 9 v1 rfl rfl) h1
  clear hA0
  simp only [List.append_nil] at hW'

  have hcp : CpAt W := cp_of_laid hsh hL
  have HC : Calls Tryz.prog 3 #[.slice q0 l.length q2, .string s] W (Ret (.bool true) W) := by
    have := lawTexts_any q0 l q2 s.data.toList W hcp hr (Nat.le_trans hlc hc) ws hs
    rw [bN_self] at this
    exact this
  have hlt : ∀ x ∈ p0, x.block < W.heap.size := fun x hx => hW'.lt x (by simpa using hx)
  refine (HC).mono fun e W' ⟨he, hB⟩ => ?_
  subst he
  refine ⟨_, rfl, post_of_below (pa := p0) (pv := []) hW' (fun _ _ _ => ?_) (fun sp hsp => ?_) (fun _ _ => rfl) (by simp) hB (ok_one (by kernel_rfl) rfl (okWide_bool_mk Tryz.underlying4 _))⟩
  · exact trodAll_mk1 (shut_bool Tryz.underlying4 _)
  · have hk := WideElems.Trod_stays laidOut' (by kernel_rfl) (of_decide_eq_true (by kernel_rfl)) h0 (fun x hx => hB.same (hlt x hx)) (fun x hx => hsp x (by simpa using hx)) (W' := W') (sp' := sp)
    have h3 := trodAll_mk2 hk (shut_string Tryz.underlying9 ws)
    simp only [List.append_nil] at h3
    exact h3

theorem row_holds : Rows.CompileTextsSaid :=
  OpenClaim.holds_of_wide 3 Tryz.f3 rfl rfl rfl rfl rfl rfl rfl ⟨rfl, rfl, rfl, rfl, rfl⟩ rfl rfl rfl rfl rfl (by kernel_rfl) Tryz.func3 (by kernel_rfl)
    (of_decide_eq_true (by kernel_rfl)) (by unfold Func.isWrapper; first | (rw [if_pos (by decide +kernel)]; kernel_rfl) | (rw [if_neg (by decide +kernel)]; exact ⟨rfl, rfl⟩))
    (fun os started H enc _ => lifted os started H enc)

theorem proved : Rows.CompileTextsCardSaid :=
  Claim7.holds_tied_plain_at .later [] [.data, .data, .data, .sentinel, .sentinel] true (true, "985ac54d8c49b082f98ea2a9315df45fcb9557a55242d1057efe6477b02fb837") true
    row_holds (fun _ h => by cases h) (by kernel_rfl) (fun _ h => by cases h) compileTexts_row_tie rfl ⟨rfl, rfl⟩ (by kernel_rfl) rfl
    (fun f fn hf hfn => by
      obtain rfl : f = 3 := Option.some.inj ((show Tryz.prog.funcNamed "torchon/torchonlaw15.CompileTexts" = some 3 by kernel_rfl).symm.trans hf) |>.symm
      obtain rfl : fn = Tryz.f3 := (Option.some.inj (Tryz.func3.symm.trans hfn)).symm
      exact ⟨by kernel_rfl, fun j t ht => by
        rw [Tryz.params3] at ht
        rcases j with _ | _ | j
        · simp at ht; subst ht; first | decide +kernel | kernel_rfl
        · simp at ht; subst ht; first | decide +kernel | kernel_rfl
        · simp at ht⟩)
    (by kernel_rfl)
#print axioms proved
end Go.Proofs.YtmfklcnocekdlaaGreatDoor.lawTexts
