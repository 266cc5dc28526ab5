/- words: Unquote. -/
import Derived.Test.YtohcmfobnkaaiaaGreatDoorWQuote
set_option linter.unusedSimpArgs false
set_option linter.unusedVariables false
namespace Go.Proofs.YtohcmfobnkaaiaaGreatDoor
open Go Go.RowKit Tor

theorem bN_mid (L : List UInt8) : (bN L).extract 1 (L.length - 1) = bN (midL L) := ByteArray.ext (Array.ext' (by
  rw [ByteArray.data_extract]
  simp only [bN, midL, Array.toList_extract, List.extract_eq_take_drop]
  rw [show L.length - 1 - 1 = L.length - 2 by omega]))
set_option maxRecDepth 100000 in
set_option maxHeartbeats 2000000 in
theorem unquote_any (L : List UInt8) (w : World) (hs : L.length ≤ 1000000) (h : WdAt w) : Calls Tryz.prog 30 #[.string (bN L)] w (Ret (.tuple #[.string (bN (unqP L).1), .int .i64 (unqP L).2]) w) := by
  have hz : (bN L).size = L.length := rfl
  by_cases h2 : L.length < 2
  · have hP : Hid (unqP L = ([], 6)) := by rw [Hid]; unfold unqP; rw [if_pos (.inl h2)]
    rw [hP.out]
    have a1 : (L.length : Int) < 2 := by omega
    clear hP h2 h
    go_enter Tryz.func30, Tryz.ntmps30
    go_wp2_with fail
    go_ret2
    exact ⟨rfl, Below.refl _ _⟩
  have a1 : ¬ (L.length : Int) < 2 := by omega
  have h0 : 0 < L.length := by omega
  have hn : L.length - 1 < L.length := by omega
  have z0 : 0 < (bN L).size := h0
  have zn : L.length - 1 < (bN L).size := hn
  obtain ⟨c, hc⟩ : ∃ c, Hid (L[0] = c) := ⟨_, Lib.hid rfl⟩
  obtain ⟨d, hd⟩ : ∃ d, Hid (L[L.length - 1] = d) := ⟨_, Lib.hid rfl⟩
  have b0 : (bN L)[0]'z0 = c := hc.out
  have b1 : (bN L)[L.length - 1]'zn = d := hd.out
  have hh : L.head? = some c := by rw [List.head?_eq_getElem?, List.getElem?_eq_getElem h0]; exact congrArg some hc.out
  have hl : L.getLast? = some d := by rw [List.getLast?_eq_getElem?, List.getElem?_eq_getElem hn]; exact congrArg some hd.out
  have ne34 : ∀ x : UInt8, ¬ x = 34 → ((x.toNat : Int) != 34) = true := fun x hx => by
    rw [bne_iff_ne]; intro he; exact hx (UInt8.toNat.inj (by show x.toNat = 34; omega))
  obtain ⟨m, hm⟩ : ∃ m, Hid (L.length - 1 = m) := ⟨_, Lib.hid rfl⟩
  by_cases hc34 : c = 34
  rotate_left
  · have hP : Hid (unqP L = ([], 6)) := by rw [Hid]; unfold unqP; rw [if_pos (.inr (.inl (by rw [hh]; simpa using hc34)))]
    rw [hP.out]
    have e1 := ne34 c hc34
    clear hP h2 h b1 hc hd hh hl ne34 hm zn hn hc34
    go_enter Tryz.func30, Tryz.ntmps30
    go_wp2_with fail
    go_ret2
    exact ⟨rfl, Below.refl _ _⟩
  have e0 : ((c.toNat : Int) != 34) = false := by rw [hc34]; rfl
  have im : IntKind.i64.wrap ((L.length : Int) - 1) = (L.length - 1 : Nat) := by unfold IntKind.wrap; simp [IntKind.signed, IntKind.bits]; omega
  by_cases hd34 : d = 34
  rotate_left
  · have hP : Hid (unqP L = ([], 6)) := by rw [Hid]; unfold unqP; rw [if_pos (.inr (.inr (by rw [hl]; simpa using hd34)))]
    rw [hP.out]
    have e1 := ne34 d hd34
    have i2 : (L.length : Int) - 1 = (L.length - 1 : Nat) := by omega
    clear hP h2 h hc hd hh hl ne34 hm hd34 hc34 im
    go_enter Tryz.func30, Tryz.ntmps30
    go_wp2_with fail
    go_ret2
    exact ⟨rfl, Below.refl _ _⟩
  have hQ : Hid (unqP L = if quoteP (Lib.replaceAll (midL L) [34, 34] [34]) = (L, 0) then (Lib.replaceAll (midL L) [34, 34] [34], 0) else ([], 6)) := by
    rw [Hid]; unfold unqP
    rw [if_neg]
    rw [hh, hl, hc34, hd34]
    simp
    omega
  rw [hQ.out]
  have hmid := bN_mid L
  have hml : (midL L).length ≤ L.length := by unfold midL; rw [List.length_take, List.length_drop]; omega
  obtain ⟨M, hM⟩ : ∃ M, Hid (midL L = M) := ⟨_, Lib.hid rfl⟩
  rw [hM.out] at hmid hml ⊢
  have hRl := repA_len M [34, 34] [34] (by simp)
  have HR := Lib.hid (fun (w1 : World) (hw : WdAt w1) => (by
    obtain ⟨m, hm⟩ := hw.ml
    have hcb := Lib.countB_mul_le (bN [34, 34]) (by show 1 ≤ 2; omega) _ (bN M) (Nat.le_refl _)
    have e1 : (bN M).size = M.length := rfl
    have e2 : (bN [34, 34]).size = 2 := rfl
    have e3 : (bN [34]).size = 1 := rfl
    rw [e1, e2] at hcb
    exact Tryz.strings_ReplaceAll (bN M) (bN [34, 34]) (bN [34]) m w1 (by rw [e1]; omega) hm (by rw [e2]; omega) (by rw [e1, e3]; omega) :
    Calls Tryz.prog 27 #[.string (bN M), .string ⟨#[34, 34]⟩, .string ⟨#[34]⟩] w1 (Ret (.string (bN (Lib.replaceAll M [34, 34] [34]))) w1)))
  obtain ⟨R, hR⟩ : ∃ R, Hid (Lib.replaceAll M [34, 34] [34] = R) := ⟨_, Lib.hid rfl⟩
  rw [hR.out] at hRl HR ⊢
  simp only [List.length_cons, List.length_nil] at hRl
  have HQ := Lib.hid (fun (w1 : World) (hw : WdAt w1) => quote_any R w1 (by omega) hw)
  obtain ⟨q, hq⟩ : ∃ q, Hid ((quoteP R).1 = q) := ⟨_, Lib.hid rfl⟩
  obtain ⟨e, he⟩ : ∃ e, Hid ((quoteP R).2 = e) := ⟨_, Lib.hid rfl⟩
  have hqe : Hid (quoteP R = (q, e)) := by rw [Hid, ← hq.out, ← he.out]
  rw [hqe.out] at HQ ⊢
  have tq : (bN q).toList = q := Lib.toList_data _
  have tL : (bN L).toList = L := Lib.toList_data _
  have i2 : (L.length : Int) - 1 = (L.length - 1 : Nat) := by omega
  have i3 : 1 ≤ L.length - 1 := by omega
  have h1 := h
  have hsl : ∀ W, (Instr.slice 9 (.string (bN L)) (some (.int .i64 1)) (some (.int .i64 ((L.length - 1 : Nat) : Int))) none).run Tryz.prog W = .ok (.string (bN M)) W := fun W => by
    have := run_slice_string (P := Tryz.prog) W 9 (bN L) .i64 .i64 1 ((L.length - 1 : Nat) : Int) Tryz.underlying9 (by omega) (by omega) (by rw [hz]; omega)
    rw [show (1 : Int).toNat = 1 from rfl, Int.toNat_natCast, hmid] at this
    exact this
  clear hQ hM hR hq he hqe hh hl hc hd ne34 hm im hRl hml h2 h
  have e2 : ((d.toNat : Int) != 34) = false := by rw [hd34]; rfl
  clear hc34 hd34
  by_cases h0' : e = 0
  · subst h0'
    by_cases hqL : q = L
    · subst hqL
      rw [if_pos rfl]
      go_enter Tryz.func30, Tryz.ntmps30
      go_wp2_with (first
        | (go_at_call 27
           refine (HR.out _ h1).mono ?_
           rintro e w2 ⟨rfl, hB2⟩)
        | (go_at_call 10
           refine (HQ.out _ (h1.below hB2)).mono ?_
           rintro e w3 ⟨rfl, hB3⟩)
        | fail)
      go_ret2
      exact ⟨rfl, hB2.trans (hB3.mono hB2.size)⟩
    · have hq1 : (q == L) = false := beq_eq_false_iff_ne.2 hqL
      rw [if_neg (fun hh => hqL (congrArg Prod.fst hh))]
      clear hqL
      go_enter Tryz.func30, Tryz.ntmps30
      go_wp2_with (first
        | (go_at_call 27
           refine (HR.out _ h1).mono ?_
           rintro e w2 ⟨rfl, hB2⟩)
        | (go_at_call 10
           refine (HQ.out _ (h1.below hB2)).mono ?_
           rintro e w3 ⟨rfl, hB3⟩)
        | fail)
      go_ret2
      exact ⟨rfl, hB2.trans (hB3.mono hB2.size)⟩
  · have h1' : (e != 0) = true := by simpa using h0'
    rw [if_neg (fun hh => h0' (congrArg Prod.snd hh))]
    clear h0'
    go_enter Tryz.func30, Tryz.ntmps30
    go_wp2_with (first
      | (go_at_call 27
         refine (HR.out _ h1).mono ?_
         rintro e w2 ⟨rfl, hB2⟩)
      | (go_at_call 10
         refine (HQ.out _ (h1.below hB2)).mono ?_
         rintro e w3 ⟨rfl, hB3⟩)
      | fail)
    go_ret2
    exact ⟨rfl, hB2.trans (hB3.mono hB2.size)⟩
end Go.Proofs.YtohcmfobnkaaiaaGreatDoor
