/- diagram.Read: the lines of letters. -/
import Derived.Test.YtoccplfnjammjaaGreatDoorDTake
set_option linter.unusedSimpArgs false
set_option linter.unusedVariables false
namespace Go.Proofs.YtoccplfnjammjaaGreatDoor
open Go Go.RowKit Tor

theorem lookP_cons (K : List (List UInt8)) (s : List UInt8) (r : List (List UInt8)) : lookP K (s :: r) = if ltB'.isPrefixOf s then (match lookLn K.length s with | none => .error r.length | some x => lookP (K ++ [x]) r) else .ok (K, s :: r) := rfl
theorem lookP_nil (K : List (List UInt8)) : lookP K [] = .ok (K, []) := rfl
theorem lookLn_none {n : Nat} {s : List UInt8} (h : threeP s ltB' = none) : lookLn n s = none := by unfold lookLn; rw [h]
theorem lookLn_some {n : Nat} {s a x : List UInt8} (h : threeP s ltB' = some (a, x)) : lookLn n s = if n < 52 ∧ a = [letN n] ∧ x ≠ [] ∧ sayB x = true then some x else none := by unfold lookLn; rw [h]
/-- what looks returns -/
def LkRet (w : World) (rb : Nat) (AX : Option Addr) (cX : Nat) (X : List (List UInt8)) (n0 : Nat) (e : Ending) (w' : World) : Prop :=
  match lookP [] (X.drop n0) with
  | .error k => e = .returned (.tuple #[.slice none 0 0, .bool false]) ∧ RdrAt w' rb AX cX X (X.length - k) ∧ k ≤ X.length ∧ KeptR rb w w'
  | .ok (K, r) => ∃ v, e = .returned (.tuple #[v, .bool true]) ∧ Own 1 tenc w' w.heap.size 9 v K ∧ RdrAt w' rb AX cX X (X.length - r.length) ∧ r.length ≤ X.length ∧ r = X.drop (X.length - r.length) ∧ KeptR rb w w'
theorem keptR_grown {rb : Nat} {w0 w w' : World} {v : Value} (h : KeptR rb w0 w) (hg : w.grownBy w' v.ownBlock) (hv : ∀ k, v.ownBlock = some k → w0.heap.size ≤ k) : KeptR rb w0 w' :=
  ⟨hg.os.trans h.os, hg.tape.trans h.tape, hg.output.trans h.output, Nat.le_trans h.size hg.size, fun k hk => (hg.block k (by have := h.size; omega) (fun e => by have := hv k e.symm; omega)).trans (h.block k hk)⟩
set_option maxRecDepth 100000 in
set_option maxHeartbeats 4000000 in
theorem rlooks_any (w0 : World) (rb : Nat) (AX : Option Addr) (cX : Nat) (X : List (List UInt8)) (n0 : Nat) (w : World) (hR : RdrAt w rb AX cX X n0) (hE : RdE w0 w rb AX X) (hl : X.length ≤ 100000) (hn0 : n0 ≤ X.length) (hx : ∀ s ∈ X, s.length ≤ 1000000) :
    Calls Tryz.prog 35 #[.pointer (some ⟨rb, 0, none⟩)] w (LkRet w rb AX cX X n0) := by
  obtain ⟨i0, hi0, hz0', hz1', hz2'⟩ := info_parts infoTxt
  have q22 : ∀ (w : World) (a : Option Addr) (n c n' c' : Nat), (binOp .eql 55 (.slice a n c) (.slice none n' c')).run Tryz.prog w = .ok (.bool a.isNone) w := fun w a n c n' c' => Lib.run_eql_slice_nil w _ _ a n c n' c' Tryz.underlying55
  have e0 : (⟨#[108, 101, 116, 116, 101, 114]⟩ : ByteArray) = bN ltB' := rfl
  have HX := Lib.hid hx
  have hrw := hR.lt
  clear hx
  go_enter Tryz.func35, Tryz.ntmps35
  go_wp2_with fail
  go_loopw [4] (fun v wr => ∃ (n : Nat) (K : List (List UInt8)), n ≤ X.length ∧ K.length ≤ 52 ∧ Hid (lookP [] (X.drop n0) = lookP K (X.drop n)) ∧ Own 1 tenc wr w.heap.size 9 v K ∧ RdrAt wr rb AX cX X n ∧ KeptR rb w wr) (fun _ w' => X.length - (match w'.cell? ⟨rb, 1, none⟩ with | some (.int _ n) => n.toNat | _ => 0))
  case atStart => exact ⟨n0, [], hn0, Nat.zero_le _, Lib.hid rfl, Own.nil _ _ _, hR, KeptR.refl _ _⟩
  case round =>
    obtain ⟨n, K, hn, h52, hP, hown, hRr, hK⟩ := hrel
    have hEr := hE.kept hK
    have hzr := hK.size
    obtain ⟨Av, cv, rfl, hcv, hrv⟩ := Own.rd tenc_len hown
    have c0 := hRr.cell 0 _ rfl
    have c1 := hRr.cell 1 _ rfl
    have rl := hRr.lt
    by_cases hlt : n < X.length
    · obtain ⟨b, o, hAX, hb, h0⟩ := hEr.rd.txt hlt
      subst hAX
      have hbl := lt_of_cell h0
      have hdr : X.drop n = X[n] :: X.drop (n + 1) := List.drop_eq_getElem_cons hlt
      have hsl := HX.out X[n] (List.getElem_mem hlt)
      have hP2 := hP.out
      rw [hdr, lookP_cons] at hP2
      have HT := Lib.hid (take_any rb (some ⟨b, o, none⟩) cX X n wr w0.heap.size hRr hEr.rd hE.le hn (by omega))
      have hgd : X.getD n [] = X[n] := by rw [List.getD_eq_getElem?_getD, List.getElem?_eq_getElem hlt]; rfl
      rw [hgd] at HT
      clear hgd hdr
      obtain ⟨s, hs⟩ : ∃ s, Hid (X[n] = s) := ⟨_, Lib.hid rfl⟩
      rw [hs.out] at h0 hsl hP2 HT
      have i1 : (n : Int) < (X.length : Int) := by omega
      have i2 : (0 : Int) ≤ (n : Int) := by omega
      have HPF := Lib.hid (fun W => Tryz.strings_HasPrefix (bN s) (bN ltB') W)
      rw [show Lib.hasPrefix (bN s).data.toList (bN ltB').data.toList = ltB'.isPrefixOf s from rfl] at HPF
      have HPE := Lib.hid (fun (g : Ex wr) => calls_ex (P := Tryz.prog) ((HPF.out g.w).mono (fun e w' h => (⟨h.1, by rw [h.2]; exact Below.refl _ _⟩ : Ret (.bool (ltB'.isPrefixOf s)) g.w e w'))))
      clear HPF
      cases hpf : ltB'.isPrefixOf s
      · rw [hpf] at hP2 HPE
        rw [if_neg (by decide)] at hP2
        have HP2 := Lib.hid hP2
        clear hP2 hpf HT
        go_wp2_with fail
        refine wp_region_ex (by kernel_rfl) (by kernel_rfl) ?_
        repeat (go_big_quiet_step ((go_at_call 72; refine (HPE.out _).mono ?_; rintro e w' ⟨rfl, hg⟩; exact ⟨rfl, hg⟩)))
        refine wpQuiet_nil ?_
        intro _ hw'
        obtain ⟨g, hw''⟩ := hw'
        subst hw''
        have hq := g.h
        go_wp2_with fail
        go_ret2
        have hd : (s :: X.drop (n + 1)) = X.drop n := by rw [← hs.out]; exact (List.drop_eq_getElem_cons hlt).symm
        have hdl : (X.drop n).length = X.length - n := List.length_drop
        unfold LkRet
        rw [HP2.out]
        simp only [hd, hdl]
        have e3 : X.length - (X.length - n) = n := by omega
        rw [e3]
        exact ⟨_, rfl, hown.below hq, hRr.below hq, by omega, rfl, hK.trans (KeptR.of_below hq)⟩
      · rw [hpf] at hP2 HPE
        rw [if_pos rfl] at hP2
        have HP2 := Lib.hid hP2
        clear hP2 hpf
        go_wp2_with fail
        refine wp_region_ex (by kernel_rfl) (by kernel_rfl) ?_
        repeat (go_big_quiet_step ((go_at_call 72; refine (HPE.out _).mono ?_; rintro e w' ⟨rfl, hg⟩; exact ⟨rfl, hg⟩)))
        refine wpQuiet_nil ?_
        intro _ hw'
        obtain ⟨g, hw''⟩ := hw'
        subst hw''
        have hq := g.h
        have hRg := hRr.below hq
        have hEg := hEr.below hq
        have hKg := hK.trans (KeptR.of_below hq)
        have hog := hown.below hq
        have hzg := hq.size
        have HT2 := Lib.hid (take_any rb (some ⟨b, o, none⟩) cX X n g.w w0.heap.size hRg hEg.rd hE.le hn (by omega))
        have hgd : X.getD n [] = X[n] := by rw [List.getD_eq_getElem?_getD, List.getElem?_eq_getElem hlt]; rfl
        rw [hgd, hs.out] at HT2
        clear hgd HT c0 c1 rl h0 hbl
        go_wp2_with fail
        refine HT2.out.mono ?_
        rintro e w1 (⟨_, rfl, hR1, hK1⟩ | ⟨h, _⟩)
        rotate_left
        · omega
        have hE1 := hEg.kept hK1
        have ho1 : Own 1 tenc w1 w.heap.size 9 (.slice Av K.length cv) K := by
          refine World.ownsRow.kept (row := some rb) hog ⟨hK1.os, hK1.tape, hK1.output, hK1.size, fun k hk hne => hK1.block k ⟨hk, fun e => hne (by rw [e])⟩⟩ ?_
          cases hv : (Value.slice Av K.length cv).ownBlock with
          | none => exact .inl rfl
          | some q => right; have := (World.ownsRow.lt hown q hv).1; intro e; simp only [Option.some.injEq] at e; omega
        have hK1' := hKg.trans hK1
        have hz1 := hK1.size
        have H3 := Lib.hid (three_any s ltB' w1 hE1.dta (by omega))
        go_wp2_with fail
        refine H3.out.mono ?_
        rintro e w2 ⟨hB2, h3⟩
        have hR2 := hR1.below hB2
        have ho2 := ho1.below hB2
        have hK2 := hK1'.trans (KeptR.of_below hB2)
        have hz2 := hB2.size
        have hn1 : (X.drop (n + 1)).length = X.length - (n + 1) := List.length_drop
        have HERR : lookLn K.length s = none → LkRet w rb (some ⟨b, o, none⟩) cX X n0 = fun e w' => e = .returned (.tuple #[.slice none 0 0, .bool false]) ∧ RdrAt w' rb (some ⟨b, o, none⟩) cX X (n + 1) ∧ X.length - (n + 1) ≤ X.length ∧ KeptR rb w w' := fun h => by
          have e := HP2.out
          rw [h] at e
          funext e' w'
          unfold LkRet
          rw [e]
          simp only [hn1]
          rw [show X.length - (X.length - (n + 1)) = n + 1 by omega]
        have HERR := Lib.hid HERR
        cases ht : threeP s ltB' with
        | none =>
          have HQ2 := Lib.hid (HERR.out (lookLn_none ht))
          rw [ht] at h3
          have h3' : e = .returned (.slice none 0 0) := h3
          subst h3'
          clear ht H3 HT2
          go_wp2_with fail
          go_quiet (fail)
          go_wp2_with fail
          go_ret2
          rw [HQ2.out]
          exact ⟨rfl, hR2, by omega, hK2.drewN _⟩
        | some ab =>
          obtain ⟨a, x⟩ := ab
          rw [ht] at h3
          obtain ⟨gg, rfl, g1, g2⟩ := (h3 : ∃ g, e = .returned (.slice (some ⟨g, 1, none⟩) 2 2) ∧ w2.cell? ⟨g, 1, none⟩ = some (.string (bN a)) ∧ w2.cell? ⟨g, 2, none⟩ = some (.string (bN x)))
          have hLn := lookLn_some (n := K.length) ht
          have hal := threeP_len ht
          have gl := lt_of_cell g1
          have ta := bN_toList a
          have tx := bN_toList x
          clear ht H3 HT2 HPE
          by_cases y1 : K.length = 52
          · have z1 : ((K.length : Int) == 52) = true := by simp [y1]
            have HQ2 := Lib.hid (HERR.out (by rw [hLn, if_neg (by omega)]))
            clear hLn
            have Y1 := Lib.hid y1
            clear y1
            go_wp2_with fail
            go_quiet (fail)
            go_wp2_with fail
            go_ret2
            rw [HQ2.out]
            exact ⟨rfl, hR2, by omega, hK2.drewN _⟩
          · have z1 : ((K.length : Int) == 52) = false := by simp; omega
            have hk52 : K.length < 52 := by omega
            have hcut := letter_cut K.length hk52
            have tl := bN_toList [letN K.length]
            have e5 : IntKind.i64.wrap ((K.length : Int) + 1) = (K.length : Int) + 1 := IntWalk.i64_in _ (by omega)
            by_cases y2 : a = [letN K.length]
            · by_cases y3 : x = []
              · subst y3
                have HQ2 := Lib.hid (HERR.out (by rw [hLn, if_neg (by simp)]))
                clear hLn
                have z2 : (a == [letN K.length]) = true := by rw [y2]; simp
                have z3 : (([] : List UInt8).isEmpty) = true := rfl
                have Y2 := Lib.hid y2
                clear y2
                go_wp2_with fail
                go_quiet (fail)
                go_wp2_with fail
                go_ret2
                rw [HQ2.out]
                exact ⟨rfl, hR2, by omega, hK2.drewN _⟩
              · have z2 : (a == [letN K.length]) = true := by rw [y2]; simp
                have z3 : (x == []) = false := beq_eq_false_iff_ne.2 y3
                have z3' : x.isEmpty = false := by rw [List.isEmpty_eq_false_iff]; exact y3
                have z3'' : decide (x = []) = false := decide_eq_false y3
                have Y2 := Lib.hid y2
                have Y3 := Lib.hid y3
                clear y2 y3
                go_wp2_with fail
                go_quiet (fail)
                have hR3 : RdrAt (w2.drewN nq) rb (some ⟨b, o, none⟩) cX X (n + 1) := hR2
                have hB3 : Below w2.heap.size w2 (w2.drewN nq) := (Below.refl _ _).drewN _
                have ho3 := ho2.below hB3
                have hK3 := hK2.trans (KeptR.of_below hB3)
                have g13 := (hB3.cell (p := ⟨gg, 1, none⟩) gl).trans g1
                have g23 := (hB3.cell (p := ⟨gg, 2, none⟩) gl).trans g2
                have hz3 := hB3.size
                generalize w2.drewN nq = w3 at *
                have gl3 := lt_of_cell g13
                have HWD := Lib.hid (fun W => word_any (bN x) W (by rw [bN_size]; omega))
                by_cases y5 : sayB x = true
                · by_cases y6 : x = [115, 101, 119]
                  · skip
                    have z6 : (x == [115, 101, 119]) = true := by rw [y6]; rfl
                    have Y6 := Lib.hid y6
                    clear y6
                    have HNX : Hid (lookP [] (X.drop n0) = lookP (K ++ [x]) (X.drop (n + 1))) := Lib.hid (by rw [HP2.out, hLn, if_pos ⟨hk52, Y2.out, Y3.out, y5⟩])
                    have Y5 := Lib.hid y5
                    clear y5 hLn
                    go_wp2_with (first
                      | (at_builtin; refine wpList_append_txt rfl (.tmp 78) (.tmp 82) _ rfl w.heap.size _ i0 _ Tryz.underlying55 hi0 hz0' hz1' hz2' rfl (.slice Av K.length cv) K rfl (ho3.alloc _) w3.heap.size x rfl (cell_new rfl) (by omega) (by simp; omega) ?_; intro v6 w6 ho6 hg6)
                      | fail)
                    go_roundw
                    case rel =>
                      have hK4 := hK3
                      have hR4 := hR3
                      have hz4 := hK4.size
                      have hK5 := hK4.trans (KeptR.of_below ((Below.refl _ _).alloc (Nat.le_refl _) (.cells #[.string (bN x)] 9)))
                      refine ⟨n + 1, K ++ [x], by omega, by simp; omega, HNX, ho6, ?_, keptR_grown hK5 hg6 (fun k hk => (World.ownsRow.lt hown k hk).1)⟩
                      exact Blk.grown (hR4.alloc (.cells #[.string (bN x)] 9)) hg6 (fun e => by have := (World.ownsRow.lt hown _ e.symm).1; omega)
                    case measure =>
                      have hR4 := hR3
                      have d1 := (Blk.grown (hR4.alloc (.cells #[.string (bN x)] 9)) hg6 (fun e => by have := (World.ownsRow.lt hown _ e.symm).1; omega) : Blk w6 rb _ _).cell 1 _ rfl
                      have d2 := (show Blk wr rb _ _ from hRr).cell 1 _ rfl
                      simp only [d1, d2]
                      show X.length - ((n + 1 : Nat) : Int).toNat < X.length - ((n : Nat) : Int).toNat
                      omega
                  · by_cases y7 : x = [45]
                    · skip
                      have z6 : (x == [115, 101, 119]) = false := beq_eq_false_iff_ne.2 y6
                      have z7 : (x == [45]) = true := by rw [y7]; rfl
                      have Y6 := Lib.hid y6
                      have Y7 := Lib.hid y7
                      clear y6 y7
                      have HNX : Hid (lookP [] (X.drop n0) = lookP (K ++ [x]) (X.drop (n + 1))) := Lib.hid (by rw [HP2.out, hLn, if_pos ⟨hk52, Y2.out, Y3.out, y5⟩])
                      have Y5 := Lib.hid y5
                      clear y5 hLn
                      go_wp2_with (first
                        | (at_builtin; refine wpList_append_txt rfl (.tmp 78) (.tmp 82) _ rfl w.heap.size _ i0 _ Tryz.underlying55 hi0 hz0' hz1' hz2' rfl (.slice Av K.length cv) K rfl (ho3.alloc _) w3.heap.size x rfl (cell_new rfl) (by omega) (by simp; omega) ?_; intro v6 w6 ho6 hg6)
                        | fail)
                      go_roundw
                      case rel =>
                        have hK4 := hK3
                        have hR4 := hR3
                        have hz4 := hK4.size
                        have hK5 := hK4.trans (KeptR.of_below ((Below.refl _ _).alloc (Nat.le_refl _) (.cells #[.string (bN x)] 9)))
                        refine ⟨n + 1, K ++ [x], by omega, by simp; omega, HNX, ho6, ?_, keptR_grown hK5 hg6 (fun k hk => (World.ownsRow.lt hown k hk).1)⟩
                        exact Blk.grown (hR4.alloc (.cells #[.string (bN x)] 9)) hg6 (fun e => by have := (World.ownsRow.lt hown _ e.symm).1; omega)
                      case measure =>
                        have hR4 := hR3
                        have d1 := (Blk.grown (hR4.alloc (.cells #[.string (bN x)] 9)) hg6 (fun e => by have := (World.ownsRow.lt hown _ e.symm).1; omega) : Blk w6 rb _ _).cell 1 _ rfl
                        have d2 := (show Blk wr rb _ _ from hRr).cell 1 _ rfl
                        simp only [d1, d2]
                        show X.length - ((n + 1 : Nat) : Int).toNat < X.length - ((n : Nat) : Int).toNat
                        omega
                    · have z6 : (x == [115, 101, 119]) = false := beq_eq_false_iff_ne.2 y6
                      have z7 : (x == [45]) = false := beq_eq_false_iff_ne.2 y7
                      have z8 : wordE (bN x) = 0 := by unfold sayB at y5; simpa [y6, y7] using y5
                      rw [z8] at HWD
                      have Y6 := Lib.hid y6
                      have Y7 := Lib.hid y7
                      clear y6 y7 z8
                      have HNX : Hid (lookP [] (X.drop n0) = lookP (K ++ [x]) (X.drop (n + 1))) := Lib.hid (by rw [HP2.out, hLn, if_pos ⟨hk52, Y2.out, Y3.out, y5⟩])
                      have Y5 := Lib.hid y5
                      clear y5 hLn
                      go_wp2_with (first
                        | (go_at_call 73; refine (HWD.out _).mono ?_; rintro e w4 ⟨rfl, hB4⟩
                           have g14 := (hB4.cell (p := ⟨gg, 1, none⟩) gl3).trans g13
                           have g24 := (hB4.cell (p := ⟨gg, 2, none⟩) gl3).trans g23
                           have gl4 := lt_of_cell g14)
                        | (at_builtin; refine wpList_append_txt rfl (.tmp 78) (.tmp 82) _ rfl w.heap.size _ i0 _ Tryz.underlying55 hi0 hz0' hz1' hz2' rfl (.slice Av K.length cv) K rfl ((ho3.below hB4).alloc _) w4.heap.size x rfl (cell_new rfl) (by omega) (by simp; have := hB4.size; omega) ?_; intro v6 w6 ho6 hg6)
                        | fail)
                      go_roundw
                      case rel =>
                        have hK4 := hK3.trans (KeptR.of_below hB4)
                        have hR4 := hR3.below hB4
                        have hz4 := hK4.size
                        have hK5 := hK4.trans (KeptR.of_below ((Below.refl _ _).alloc (Nat.le_refl _) (.cells #[.string (bN x)] 9)))
                        refine ⟨n + 1, K ++ [x], by omega, by simp; omega, HNX, ho6, ?_, keptR_grown hK5 hg6 (fun k hk => (World.ownsRow.lt hown k hk).1)⟩
                        exact Blk.grown (hR4.alloc (.cells #[.string (bN x)] 9)) hg6 (fun e => by have := (World.ownsRow.lt hown _ e.symm).1; omega)
                      case measure =>
                        have hR4 := hR3.below hB4
                        have d1 := (Blk.grown (hR4.alloc (.cells #[.string (bN x)] 9)) hg6 (fun e => by have := (World.ownsRow.lt hown _ e.symm).1; omega) : Blk w6 rb _ _).cell 1 _ rfl
                        have d2 := (show Blk wr rb _ _ from hRr).cell 1 _ rfl
                        simp only [d1, d2]
                        show X.length - ((n + 1 : Nat) : Int).toNat < X.length - ((n : Nat) : Int).toNat
                        omega
                · have y5' : ¬ (x = [115, 101, 119]) ∧ ¬ (x = [45]) ∧ wordE (bN x) ≠ 0 := by unfold sayB at y5; simp at y5; exact ⟨y5.1.1, y5.1.2, y5.2⟩
                  obtain ⟨y6, y7, y8⟩ := y5'
                  have z6 : (x == [115, 101, 119]) = false := beq_eq_false_iff_ne.2 y6
                  have z7 : (x == [45]) = false := beq_eq_false_iff_ne.2 y7
                  obtain ⟨we, hwe⟩ : ∃ we, Hid (wordE (bN x) = we) := ⟨_, Lib.hid rfl⟩
                  rw [hwe.out] at HWD y8
                  have z8 : (we == 0) = false := by simp [y8]
                  have HQ2 := Lib.hid (HERR.out (by rw [hLn, if_neg (fun h => y5 h.2.2.2)]))
                  clear hLn y5 y6 y7 y8
                  go_wp2_with (first
                    | (go_at_call 73; refine (HWD.out _).mono ?_; rintro e w4 ⟨rfl, hB4⟩)
                    | fail)
                  go_ret2
                  rw [HQ2.out]
                  exact ⟨rfl, hR3.below hB4, by omega, hK3.trans (KeptR.of_below hB4)⟩
            · have z2 : (a == [letN K.length]) = false := beq_eq_false_iff_ne.2 y2
              have HQ2 := Lib.hid (HERR.out (by rw [hLn, if_neg (fun h => y2 h.2.1)]))
              clear hLn
              have Y2 := Lib.hid y2
              clear y2
              go_wp2_with fail
              go_quiet (fail)
              go_wp2_with fail
              go_ret2
              rw [HQ2.out]
              exact ⟨rfl, hR2, by omega, hK2.drewN _⟩
    · have hnX : n = X.length := by omega
      subst hnX
      have hd0 : X.drop X.length = [] := List.drop_length
      have HP2 := hP
      rw [hd0, lookP_nil] at HP2
      clear hd0
      have i1 : ¬ (X.length : Int) < (X.length : Int) := by omega
      go_wp2_with fail
      go_quiet (fail)
      go_wp2_with fail
      go_ret2
      unfold LkRet
      rw [HP2.out]
      exact ⟨_, rfl, hown.drewN _, by rw [List.length_nil, Nat.sub_zero]; exact hRr, Nat.zero_le _, by simp, hK.drewN _⟩
end Go.Proofs.YtoccplfnjammjaaGreatDoor
