/- words and torchonref01: Lines. -/
import Derived.Test.YtoccplfnjammjaaGreatDoorDDig
import Derived.Test.YtoccplfnjammjaaGreatDoorLinM
import Derived.Test.YtoccplfnjammjaaGreatDoorShelf
import Derived.Test.YtoccplfnjammjaaGreatDoorNum
set_option linter.unusedSimpArgs false
set_option linter.unusedVariables false
namespace Go.Proofs.YtoccplfnjammjaaGreatDoor
open Go Go.RowKit Tor

theorem own_new {α : Type} {sz : Nat} {enc : α → List Value} (henc : ∀ x, (enc x).length = sz) {w : World} {base g : Nat} {T : TypeId} (l : List α) (hg : base ≤ g) (hl : l.length ≤ 1000000) (h : Blk w g T (l.flatMap enc).toArray) : Tor.Own sz enc w base T (.slice (some ⟨g, 0, none⟩) l.length l.length) l := by
  have hf : (l.flatMap enc).length = l.length * sz := by
    clear hl h
    induction l with
    | nil => simp
    | cons x r ih => rw [List.flatMap_cons, List.length_append, henc, ih, List.length_cons, Nat.succ_mul]; omega
  exact ⟨hf, Or.inr ⟨g, l.length, _, rfl, hg, h, Nat.le_refl _, by unfold maxLen; omega, by simpa using hf, by rw [← hf]; exact List.take_length⟩⟩
theorem splitB_bN (L : List UInt8) (c : UInt8) : Lib.splitB ⟨#[c]⟩ 0 (Lib.countB (bN L) ⟨#[c]⟩) (bN L) = (Lib.split L [c]).map bN := by
  have h1 := Lib.splitB_data ⟨#[c]⟩ 0 (Lib.countB (bN L) ⟨#[c]⟩) (bN L)
  have h2 : (Lib.splitB ⟨#[c]⟩ 0 (Lib.countB (bN L) ⟨#[c]⟩) (bN L)).map (·.data.toList) = Lib.split L [c] := h1
  rw [← h2, List.map_map]
  have : (bN ∘ fun x : ByteArray => x.data.toList) = id := funext fun x => bN_self x
  rw [this, List.map_id]
theorem split_any (L : List UInt8) (c : UInt8) (w : World) (h : DtAt w) (hs : L.length ≤ 4000000) :
    Calls Tryz.prog 68 #[.string (bN L), .string ⟨#[c]⟩] w fun e w' =>
      e = .returned (.slice (some ⟨w.heap.size, 0, none⟩) (Lib.split L [c]).length (Lib.split L [c]).length) ∧ w' = w.alloc (.cells ((Lib.split L [c]).map fun t => Value.string (bN t)).toArray 9) := by
  obtain ⟨m, hm⟩ := h.ml
  refine (Tryz.strings_Split (bN L) ⟨#[c]⟩ m w (by show L.length < _; omega) hm (by show 1 ≤ 1; omega)).mono ?_
  rintro e w' ⟨rfl, rfl⟩
  have hn : Lib.countB (bN L) ⟨#[c]⟩ + 1 = (Lib.split L [c]).length := by
    rw [← Lib.splitB_all ⟨#[c]⟩ (by show 1 ≤ 1; omega) 0 _ (bN L) rfl, splitB_bN, List.length_map]
  rw [hn, splitB_bN, List.map_map]
  exact ⟨rfl, rfl⟩

theorem suf_last (L : List UInt8) : Lib.hasSuffix L [10] = decide (L.getLast? = some 10) := by
  unfold Lib.hasSuffix
  rw [Bool.eq_iff_iff, List.isSuffixOf_iff_suffix, decide_eq_true_eq]
  constructor
  · rintro ⟨t, rfl⟩; simp
  · intro h
    obtain ⟨ys, rfl⟩ := List.getLast?_eq_some_iff.1 h
    exact ⟨ys, rfl⟩

set_option maxRecDepth 100000 in
set_option maxHeartbeats 2000000 in
theorem wlines_any (L : List UInt8) (w : World) (hs : L.length ≤ 2000000) (h : DtAt w) : Calls Tryz.prog 32 #[.string (bN L)] w (LinRet w (linesP L).1 (linesP L).2) := by
  have hz : (bN L).size = L.length := rfl
  by_cases h1 : 1048576 < L.length
  · have hP : Hid (linesP L = ([], 3)) := by rw [Hid]; unfold linesP; rw [if_pos h1]
    rw [hP.out]
    have i1 : (1048576 : Int) < L.length := by omega
    clear h1 hP h
    go_enter Tryz.func32, Tryz.ntmps32
    go_wp2_with fail
    go_ret2
    exact ⟨_, rfl, Own.nil _ _ _, Below.refl _ _⟩
  have i1 : ¬ (1048576 : Int) < L.length := by omega
  have tL : (bN L).toList = L := Lib.toList_data _
  by_cases h2 : L = []
  · have hP : Hid (linesP L = ([], 0)) := by rw [Hid]; unfold linesP; rw [if_neg h1, if_pos h2]
    rw [hP.out]
    have e1 : (L == []) = true := by rw [h2]; rfl
    have e2 : decide (L = []) = true := decide_eq_true h2
    clear h1 hP h h2
    go_enter Tryz.func32, Tryz.ntmps32
    go_wp2_with fail
    go_ret2
    exact ⟨_, rfl, Own.nil _ _ _, Below.refl _ _⟩
  have e1 : (L == []) = false := beq_eq_false_iff_ne.2 h2
  have HSu := Lib.hid (fun w' => Tryz.strings_HasSuffix (bN L) ⟨#[10]⟩ w' (by rw [hz]; omega))
  rw [show Lib.hasSuffix (bN L).data.toList (⟨#[10]⟩ : ByteArray).data.toList = decide (L.getLast? = some 10) from suf_last L] at HSu
  by_cases h3 : L.getLast? = some 10
  rotate_left
  · have hP : Hid (linesP L = ([], 6)) := by rw [Hid]; unfold linesP; rw [if_neg h1, if_neg h2, if_pos h3]
    rw [hP.out]
    rw [decide_eq_false h3] at HSu
    have e2 : decide (L = []) = false := decide_eq_false h2
    clear h1 hP h h2 h3
    go_enter Tryz.func32, Tryz.ntmps32
    go_wp2_with fail
    refine (HSu.out _).mono ?_
    rintro e w1 ⟨rfl, rfl⟩
    go_wp2_with fail
    go_ret2
    exact ⟨_, rfl, Own.nil _ _ _, Below.refl _ _⟩
  rw [decide_eq_true h3] at HSu
  obtain ⟨n, hn⟩ : ∃ n, Hid (L.count 10 = n) := ⟨_, Lib.hid rfl⟩
  have HC := Lib.hid (fun w' => Tryz.strings_Count_one (bN L) 10 w')
  rw [show Lib.countByte (bN L).data.toList 10 = n from hn.out] at HC
  by_cases h4 : 5000 < n
  · have hP : Hid (linesP L = ([], 3)) := by rw [Hid]; unfold linesP; rw [if_neg h1, if_neg h2, if_neg (by simpa using h3), hn.out, if_pos h4]
    rw [hP.out]
    have i4 : (5000 : Int) < n := by omega
    clear h1 hP h h2 h3 h4 hn
    go_enter Tryz.func32, Tryz.ntmps32
    go_wp2_with fail
    refine (HSu.out _).mono ?_
    rintro e w1 ⟨rfl, rfl⟩
    go_wp2_with fail
    refine (HC.out _).mono ?_
    rintro e w1 ⟨rfl, rfl⟩
    go_wp2_with fail
    go_ret2
    exact ⟨_, rfl, Own.nil _ _ _, Below.refl _ _⟩
  · have hP : Hid (linesP L = (linL L, 0)) := by rw [Hid]; unfold linesP; rw [if_neg h1, if_neg h2, if_neg (by simpa using h3), hn.out, if_neg h4]
    rw [hP.out]
    have i4 : ¬ (5000 : Int) < n := by omega
    have hlen : (linL L).length = n := by rw [linL_length, hn.out]
    obtain ⟨M, rfl⟩ := List.getLast?_eq_some_iff.1 h3
    have hlL := linL_split M
    have HSp := Lib.hid (fun w' hw' => split_any M 10 w' hw' (by simp at hs; omega))
    rw [← hlL] at HSp
    rw [hlen] at HSp
    have hLM : (M ++ [10]).length = M.length + 1 := by simp
    have hML : M.length ≤ 2000000 := by simp at hs; omega
    have hsl : ∀ W, (Instr.slice 9 (.string (bN (M ++ [10]))) none (some (.int .i64 (M.length : Int))) none).run Tryz.prog W = .ok (.string (bN M)) W := fun W => by
      have := run_slice_string (P := Tryz.prog) W 9 (bN (M ++ [10])) .i64 .i64 0 (M.length : Int) Tryz.underlying9 (by omega) (by omega) (by show _ ≤ (((M ++ [10]).length : Nat) : Int); rw [hLM]; omega)
      have he : (bN (M ++ [10])).extract 0 M.length = bN M := by
        refine ByteArray.ext (Array.ext' ?_)
        rw [ByteArray.data_extract]
        simp [bN, Array.toList_extract, List.extract_eq_take_drop]
      rw [show (0 : Int).toNat = 0 from rfl, Int.toNat_natCast, he] at this
      exact this
    obtain ⟨ls, hls⟩ : ∃ ls, Hid (linL (M ++ [10]) = ls) := ⟨_, Lib.hid rfl⟩
    rw [hls.out] at HSp hlen ⊢
    obtain ⟨S, hS⟩ : ∃ S, Hid (bN (M ++ [10]) = S) := ⟨_, Lib.hid rfl⟩
    rw [hS.out] at HSu HC hsl hz tL ⊢
    clear hP hlL
    obtain ⟨k, hk⟩ : ∃ m, Hid ((M ++ [10]).length = m) := ⟨_, Lib.hid rfl⟩
    rw [hk.out] at hz hs i1 hLM
    obtain ⟨Lw, hLw⟩ : ∃ m, Hid (M ++ [10] = m) := ⟨_, Lib.hid rfl⟩
    rw [hLw.out] at tL e1
    have e2 : decide (Lw = []) = false := by rw [← hLw.out]; exact decide_eq_false h2
    have i5 : (k : Int) - 1 = (M.length : Int) := by omega
    have i6 : n ≤ 5000 := by omega
    have Hlen := Lib.hid hlen
    clear h1 h2 h3 h4 hn hls hS hk hLw hLM hlen
    go_enter Tryz.func32, Tryz.ntmps32
    go_wp2_with fail
    refine (HSu.out _).mono ?_
    rintro e w1 ⟨rfl, rfl⟩
    go_wp2_with fail
    refine (HC.out _).mono ?_
    rintro e w1 ⟨rfl, rfl⟩
    go_wp2_with fail
    refine (HSp.out _ h).mono ?_
    rintro e w1 ⟨rfl, rfl⟩
    go_wp2_with fail
    go_ret2
    have hB : Below w1.heap.size w1 (w1.alloc (.cells ((ls.map fun t => Value.string (bN t)).toArray) 9)) := (Below.refl _ _).alloc (Nat.le_refl _) _
    refine ⟨_, rfl, ?_, hB⟩
    rw [← Hlen.out]
    refine own_new tenc_len ls (Nat.le_refl _) (by rw [Hlen.out]; omega) ?_
    rw [← txt_flat]
    exact Blk.new w1 _ _

theorem linesP_in {L : List UInt8} (h1 : ¬ 1048576 < L.length) (h3 : L = [] ∨ L.getLast? = some 10) : linesP L = if 5000 < (linL L).length then ([], 3) else (linL L, 0) := by
  unfold linesP
  rw [if_neg h1]
  by_cases h2 : L = []
  · subst h2; rfl
  · rw [if_neg h2, if_neg (by rcases h3 with h | h; exact absurd h h2; simpa using h), linL_length]

set_option maxRecDepth 100000 in
set_option maxHeartbeats 4000000 in
theorem rlines_any (L : List UInt8) (w : World) (hs : L.length ≤ 2000000) : Calls Tryz.prog 37 #[.string (bN L)] w (LinRet w (linesP L).1 (linesP L).2) := by
  have hz : (bN L).size = L.length := rfl
  by_cases h1 : 1048576 < L.length
  · have hP : Hid (linesP L = ([], 3)) := by rw [Hid]; unfold linesP; rw [if_pos h1]
    rw [hP.out]
    have i1 : (1048576 : Int) < L.length := by omega
    clear h1 hP
    go_enter Tryz.func37, Tryz.ntmps37
    go_wp2_with fail
    go_ret2
    exact ⟨_, rfl, Own.nil _ _ _, Below.refl _ _⟩
  have i1 : ¬ (1048576 : Int) < L.length := by omega
  have rest : ∀ (hl : L = [] ∨ L.getLast? = some 10) (W : World) (v4 : Value), True := fun _ _ _ => trivial
  obtain ⟨i0, hi0, hz0', hz1', hz2'⟩ := info_parts infoTxt
  by_cases h2 : L = []
  · subst h2
    have hP : Hid (linesP [] = ([], 0)) := Lib.hid rfl
    rw [hP.out]
    clear hP h1 rest
    have e0 : (bN []) = ⟨#[]⟩ := rfl
    rw [e0]
    go_enter Tryz.func37, Tryz.ntmps37
    go_wp2_with fail
    go_loopw [4, 5, 6] (fun o f i wr => o = .slice none 0 0 ∧ i = .int .i64 0 ∧ wr = w) (fun _ _ i _ => 0)
    case atStart => exact ⟨rfl, rfl, rfl⟩
    case round =>
      obtain ⟨rfl, rfl, rfl⟩ := hrel
      go_wp2_with fail
      go_ret2
      exact ⟨_, rfl, Own.nil _ _ _, Below.refl _ _⟩
  have h0 : 0 < L.length := List.length_pos_iff.2 h2
  have hn : L.length - 1 < L.length := by omega
  have zn : L.length - 1 < (bN L).size := hn
  obtain ⟨d, hd⟩ : ∃ d, Hid (L[L.length - 1] = d) := ⟨_, Lib.hid rfl⟩
  have b1 : (bN L)[L.length - 1]'zn = d := hd.out
  have hl : L.getLast? = some d := by rw [List.getLast?_eq_getElem?, List.getElem?_eq_getElem hn]; exact congrArg some hd.out
  have i2 : (L.length : Int) - 1 = (L.length - 1 : Nat) := by omega
  have a1 : (0 : Int) < L.length := by omega
  by_cases hd10 : d = 10
  rotate_left
  · have hP : Hid (linesP L = ([], 6)) := by rw [Hid]; unfold linesP; rw [if_neg h1, if_neg h2, if_pos (by rw [hl]; simpa using hd10)]
    rw [hP.out]
    have e1 : ((d.toNat : Int) != 10) = true := by
      rw [bne_iff_ne]; intro he; exact hd10 (UInt8.toNat.inj (by show d.toNat = 10; omega))
    clear hP h1 h2 hd hl hd10 rest
    go_enter Tryz.func37, Tryz.ntmps37
    go_wp2_with fail
    go_ret2
    exact ⟨_, rfl, Own.nil _ _ _, Below.refl _ _⟩
  have e1 : ((d.toNat : Int) != 10) = false := by rw [hd10]; rfl
  have hP : Hid (linesP L = if 5000 < (linL L).length then ([], 3) else (linL L, 0)) := Lib.hid (linesP_in h1 (.inr (by rw [hl, hd10])))
  clear h1 h2 hd hl hd10 rest
  obtain ⟨res, hres⟩ : ∃ r, Hid (linesP L = r) := ⟨_, Lib.hid rfl⟩
  rw [hres.out]
  go_enter Tryz.func37, Tryz.ntmps37
  go_wp2_with fail
  go_loopw [4, 5, 6] (fun ov fv i wr => ∃ (j f : Nat) (O : List (List UInt8)), j ≤ L.length ∧ f ≤ j ∧ i = .int .i64 j ∧ fv = .int .i64 f ∧ O.length ≤ j ∧ Tor.Own 1 tenc wr w.heap.size 9 ov O ∧ Hid (spl 10 (L.take j) = O ++ [(L.take j).drop f]) ∧ Below w.heap.size w wr) (fun _ _ i _ => L.length - (intOf i).toNat)
  case atStart => exact ⟨0, 0, [], Nat.zero_le _, Nat.le_refl _, rfl, rfl, Nat.le_refl _, Own.nil _ _ _, Lib.hid (by simp [spl]), Below.refl _ _⟩
  case round =>
    obtain ⟨j, f, O, hj, hf, rfl, rfl, hOl, ho, hO, hB⟩ := hrel
    obtain ⟨W, rfl⟩ : ∃ wo : World, wo = wr := ⟨_, rfl⟩
    obtain ⟨Av, cv, rfl, _, _⟩ := Own.rd tenc_len ho
    by_cases hlt : j < L.length
    · have a2 : (j : Int) < L.length := by omega
      obtain ⟨x, hx⟩ : ∃ c, Hid (L[j]'hlt = c) := ⟨_, Lib.hid rfl⟩
      have hsz : j < (bN L).size := hlt
      have hcb : (bN L)[j]'hsz = x := hx.out
      have hta : L.take (j + 1) = L.take j ++ [x] := by
        rw [List.take_add_one, List.getElem?_eq_getElem hlt, hx.out]; rfl
      have htl : (L.take j).length = j := by rw [List.length_take]; omega
      obtain ⟨s1, s2⟩ := spl_snoc 10 (L.take j) O _ hO.out
      have hs1 := hB.size
      by_cases hx10 : x = 10
      · have e3 : (x.toNat : Int) = 10 := by rw [hx10]; rfl
        obtain ⟨y, hy⟩ : ∃ y, Hid ((L.take j).drop f = y) := ⟨_, Lib.hid rfl⟩
        have HSl := rangeSl L f j hf hj (by omega) y hy.out
        have hN : Hid (spl 10 (L.take (j + 1)) = (O ++ [y]) ++ [(L.take (j + 1)).drop (j + 1)]) := by
          rw [Hid, hta, hx10, s1, hy.out, List.drop_eq_nil_of_le (by simp; omega)]
        clear hO hta hy s1 s2 hx10 htl
        go_wp2_with (first
          | (at_builtin
             refine wpList_append_txt rfl (.tmp 31) (.tmp 36) _ rfl w.heap.size _ i0 _ Tryz.underlying55 hi0 hz0' hz1' hz2' rfl (.slice Av O.length cv) O rfl (ho.alloc _) W.heap.size y rfl (World.cell?_alloc_new _ _ _ 0) (by omega) (by simp; omega) ?_
             intro v8 w8 hown8 hg8)
          | fail)
        have hB8 := (ho.alloc (.cells #[.string (bN y)] 9)).grown (hB.alloc hs1 _) hg8 (by simp; omega)
        go_roundw
        case rel => exact ⟨j + 1, j + 1, O ++ [y], by omega, Nat.le_refl _, by go_num, by go_num, by simp; omega, hown8, hN, hB8⟩
        case measure => simp [intOf]; omega
      · have e3 : ¬ (x.toNat : Int) = 10 := fun he => hx10 (UInt8.toNat.inj (by show x.toNat = 10; omega))
        have hN : Hid (spl 10 (L.take (j + 1)) = O ++ [(L.take (j + 1)).drop f]) := by
          rw [Hid, hta, s2 x hx10, List.drop_append_of_le_length (by omega)]
        clear hO hta s1 s2 hx10 htl
        go_wp2_with fail
        go_roundw
        case rel => exact ⟨j + 1, f, O, by omega, by omega, by go_num, rfl, by omega, ho, hN, hB⟩
        case measure => simp [intOf]; omega
    · obtain rfl : j = L.length := by omega
      have hOL : linL L = O := by
        have := hO.out
        rw [List.take_length] at this
        unfold linL
        rw [this, List.dropLast_concat]
      have hR : Hid (res = if 5000 < O.length then ([], 3) else (O, 0)) := by rw [Hid, ← hres.out, hP.out, hOL]
      clear hO hOL hP hres
      by_cases h5 : 5000 < O.length
      · have a5 : (5000 : Int) < O.length := by omega
        have hr : Hid (res = ([], 3)) := by rw [Hid, hR.out, if_pos h5]
        clear hR h5
        go_wp2_with fail
        go_ret2
        rw [hr.out]
        exact ⟨_, rfl, Own.nil _ _ _, hB⟩
      · have a5 : ¬ (5000 : Int) < O.length := by omega
        have hr : Hid (res = (O, 0)) := by rw [Hid, hR.out, if_neg h5]
        clear hR h5
        go_wp2_with fail
        go_ret2
        rw [hr.out]
        exact ⟨_, rfl, ho, hB⟩
end Go.Proofs.YtoccplfnjammjaaGreatDoor
