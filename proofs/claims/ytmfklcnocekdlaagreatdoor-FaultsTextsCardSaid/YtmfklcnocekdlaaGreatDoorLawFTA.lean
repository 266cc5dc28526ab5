/- torchonlaw25: awake, FaultsTexts. -/
import Derived.Test.YtmfklcnocekdlaaGreatDoorSeen2
import Derived.Test.YtmfklcnocekdlaaGreatDoorFPrn
import Derived.Test.YtmfklcnocekdlaaGreatDoorFPrs6
import Derived.Test.YtmfklcnocekdlaaGreatDoorRFTxA
set_option linter.unusedSimpArgs false
set_option linter.unusedVariables false
namespace Go.Proofs.YtmfklcnocekdlaaGreatDoor
open Go Go.RowKit Tor

def exF : List Tri := [⟨1, 0, ⟨#[]⟩⟩, ⟨2, 0, ⟨#[67, 84, 67]⟩⟩, ⟨2, 2, ⟨#[67, 84]⟩⟩, ⟨2, 1, ⟨#[67]⟩⟩]
def exA : List Tri := [⟨1, 0, ⟨#[]⟩⟩, ⟨2, 0, ⟨#[67, 84, 67]⟩⟩, ⟨2, 2, ⟨#[67, 84, 80]⟩⟩, ⟨2, 1, ⟨#[67]⟩⟩]
theorem ex1 : putR 4 4 exF ⟨2, 2, 2, 80⟩ = (exA, 0) := by decide +kernel
theorem ex2 : seenR 4 4 exF ⟨6, 1, 0, 0⟩ = (false, 0) := by decide +kernel
theorem ex3 : seenR 4 4 exF ⟨6, 2, 0, 0⟩ = (true, 0) := by decide +kernel
theorem exF_words : ∀ (k : Nat) (hk : k < exF.length), exF[k].s.size ≤ 9223372036854775807 := by
  have h : ∀ k : Fin 4, (exF[k.1]'(k.2)).s.size ≤ 9223372036854775807 := by decide
  exact fun k hk => h ⟨k, hk⟩

theorem rd_new (w : World) (l : List Tri) (T : TypeId) (cs : Array Value) (hc : cs.toList = l.flatMap Tri.enc) : RdT (w.alloc (.cells cs T)) (w.heap.size + 1) (some ⟨w.heap.size, 0, none⟩) l := fun hl => by
  refine ⟨w.heap.size, 0, rfl, by omega, fun k x hk j u hu => ?_⟩
  have h := flatMap_get (sz := 3) (enc := Tri.enc) tri_len l k x hk j u hu
  rw [← hc] at h
  have := (Blk.new w T cs).cell (k * 3 + j) u (by simpa using h)
  rw [Nat.zero_add]; exact this

set_option maxRecDepth 100000 in
theorem example25_any (w : World) : Calls Tryz.prog 51 #[] w fun e w' => ∃ A, e = .returned (.slice A 4 4) ∧ RdT w' w'.heap.size A exF ∧ Below w.heap.size w w' := by
  go_enter Tryz.func51, Tryz.ntmps51
  go_wp2_with fail
  go_ret
  refine ⟨_, rfl, ?_, by (repeat' first | exact Below.refl _ _ | apply Below.drew | (refine Below.setCells ?_ _ _ ?_) | (refine Below.setCell ?_ ?_ _) | (refine Below.alloc ?_ ?_ _) | (simp; done) | (simp; omega))⟩
  rw [World.size_alloc]
  exact rd_new w exF _ _ rfl


set_option maxRecDepth 100000 in
set_option maxHeartbeats 2000000 in
theorem awake25_any (w : World) : Calls Tryz.prog 17 #[] w (Ret (.bool true) w) := by
  have H1 := Lib.hid (fun (w' : World) (A : Option Addr) (hr : RdT w' w'.heap.size A exF) => (by have := fput_any 4 4 A exF 4 ⟨2, 2, 2, 80⟩ w' _ hr (Nat.le_refl _) exF_words (by decide); rw [ex1] at this; exact this : Calls Tryz.prog 50 #[.int .i64 4, .int .i64 4, .slice A 4 4, .agg #[.int .i64 2, .int .i64 2, .int .i64 2, .int .i64 80]] w' (PutRet w' exA 0)))
  have H2 := Lib.hid (fun (w' : World) (A : Option Addr) (hr : RdT w' w'.heap.size A exF) => (by have := fseen_any 4 4 A exF 4 ⟨6, 1, 0, 0⟩ w' _ hr (Nat.le_refl _) exF_words (by decide) (by decide); rw [ex2] at this; exact this : Calls Tryz.prog 52 #[.int .i64 4, .int .i64 4, .slice A 4 4, .agg #[.int .i64 6, .int .i64 1, .int .i64 0, .int .i64 0]] w' (Ret (.tuple #[.bool false, .int .i64 0]) w')))
  have H3 := Lib.hid (fun (w' : World) (A : Option Addr) (hr : RdT w' w'.heap.size A exF) => (by have := fseen_any 4 4 A exF 4 ⟨6, 2, 0, 0⟩ w' _ hr (Nat.le_refl _) exF_words (by decide) (by decide); rw [ex3] at this; exact this : Calls Tryz.prog 52 #[.int .i64 4, .int .i64 4, .slice A 4 4, .agg #[.int .i64 6, .int .i64 2, .int .i64 0, .int .i64 0]] w' (Ret (.tuple #[.bool true, .int .i64 0]) w')))
  go_enter Tryz.func17, Tryz.ntmps17
  have tk1 : True := trivial
  have tk2 : True := trivial
  go_wp2_with (first
    | (go_at_call 51; have := tk1; refine (example25_any w).mono ?_; rintro e w1 ⟨A1, rfl, hr1, hB1⟩; clear tk1)
    | (go_at_call 50; refine (H1.out w1 A1 hr1).mono ?_; rintro e w2 ⟨A2, c2, rfl, hr2, hB2⟩
       have hB2' := hB1.trans (hB2.mono hB1.size)
       obtain ⟨b2, o2, rfl, hb2, h20, h21, h22⟩ := Rd.tri hr2 (k := 2) (by decide)
       have e22 : exA[2].s = ⟨#[67, 84, 80]⟩ := rfl
       rw [e22] at h22)
    | (go_at_call 51; have := tk2; refine (example25_any w2).mono ?_; rintro e w3 ⟨A3, rfl, hr3, hB3⟩; clear tk2
       have hB3' := hB2'.trans (hB3.mono hB2'.size))
    | (go_at_call 52; refine (H2.out w3 A3 hr3).mono ?_; rintro e w4 ⟨rfl, hB4⟩; clear H2
       have hB4' := hB3'.trans (hB4.mono hB3'.size))
    | (go_at_call 51; refine (example25_any w4).mono ?_; rintro e w5 ⟨A5, rfl, hr5, hB5⟩
       have hB5' := hB4'.trans (hB5.mono hB4'.size))
    | (go_at_call 52; refine (H3.out w5 A5 hr5).mono ?_; rintro e w6 ⟨rfl, hB6⟩
       have hB6' := hB5'.trans (hB6.mono hB5'.size)
       have hBQ : Below w2.heap.size w2 w6 := ((hB3.trans (hB4.mono hB3.size)).trans (hB5.mono (hB3.trans (hB4.mono hB3.size)).size)).trans (hB6.mono ((hB3.trans (hB4.mono hB3.size)).trans (hB5.mono (hB3.trans (hB4.mono hB3.size)).size)).size)
       have g22 := (hBQ.cell (p := ⟨b2, _, none⟩) hb2).trans h22)
    | fail)
  go_ret
  exact Ret.val rfl hB6'
end Go.Proofs.YtmfklcnocekdlaaGreatDoor

namespace Go.Proofs.YtmfklcnocekdlaaGreatDoor
open Go Go.RowKit Tor

theorem textF_len (f : Flt) (h : FOk f) : (textF f).length ≤ 100000 := by
  have h0 := h.s0
  have h1 := h.s1
  have h2 := h.l0
  have h3 := h.l1
  have hw := h.w
  have hk := h.k
  have hlen : (piecesF f).length ≤ 4 := by
    unfold piecesF
    split <;> split <;> (try split) <;> simp
  have := joinS_len (piecesF f) (fun p hp => by
    unfold piecesF at hp
    rcases List.mem_append.1 hp with hp | hp
    · rcases List.mem_append.1 hp with hp | hp
      · simp only [List.mem_cons, List.not_mem_nil, or_false] at hp
        rcases hp with rfl | rfl
        · exact fnmF_len _
        · exact itoaF_len (by omega) (by omega)
      · split at hp
        · simp only [List.mem_cons, List.not_mem_nil, or_false] at hp
          subst hp; exact itoaF_len (by omega) (by omega)
        · simp at hp
    · split at hp
      · simp only [List.mem_cons, List.not_mem_nil, or_false] at hp
        subst hp; simp
      · split at hp
        · rename_i h5
          simp only [List.mem_cons, List.not_mem_nil, or_false] at hp
          subst hp
          rw [h5] at hw
          have : f.wi = -1 ∨ f.wi = 1 := by simpa [withsL] using hw
          exact itoaF_len (by omega) (by omega)
        · simp at hp)
  unfold textF
  omega
set_option maxRecDepth 100000 in
set_option maxHeartbeats 8000000 in
theorem lawFTexts_any (k st lt wi : Int) (L : List UInt8) (w : World) (hDt : DtAt w) : Calls Tryz.prog 5 #[.agg #[.int .i64 k, .int .i64 st, .int .i64 lt, .int .i64 wi], .string (bN L)] w (Ret (.bool true) w) := by
  have hz : (bN L).size = L.length := rfl
  have HA := Lib.hid (fun w' => awake25_any w')
  have kF := Blk.new w 41 #[.int .i64 k, .int .i64 st, .int .i64 lt, .int .i64 wi]
  have hBB : Below w.heap.size w (w.alloc (.cells #[.int .i64 k, .int .i64 st, .int .i64 lt, .int .i64 wi] 41)) := (Below.refl _ _).alloc (Nat.le_refl _) _
  by_cases h1 : 100 < L.length
  · have i1 : (100 : Int) < L.length := by omega
    clear h1
    go_enter Tryz.func5, Tryz.ntmps5
    go_wp2_with fail
    refine (HA.out _).mono ?_
    rintro e w1 ⟨rfl, hB1⟩
    go_wp2_with fail
    go_ret
    exact ⟨rfl, hBB.trans (hB1.mono hBB.size)⟩
  have i1 : ¬ (100 : Int) < L.length := by omega
  have HP1 := Lib.hid (fun w' (hB : Below w.heap.size w w') => fprint_any k st lt wi w' (hDt.below hB))
  have HP2 := Lib.hid (fun w' => rprint25_any k st lt wi w')
  have HQ1 := Lib.hid (fun w' (hB : Below w.heap.size w w') => fparse_any L (by omega) w' (hDt.below hB))
  have HQ2 := Lib.hid (fun w' => rparse25_any L w' (by omega))
  obtain ⟨⟨⟨x0, x1, x2, x3⟩, E2⟩, hX⟩ : ∃ X, Hid (parseF L = X) := ⟨_, Lib.hid rfl⟩
  rw [hX.out] at HQ1 HQ2
  have eX : (⟨x0, x1, x2, x3⟩ : Flt).enc = #[.int .i64 x0, .int .i64 x1, .int .i64 x2, .int .i64 x3] := rfl
  dsimp only at HQ1 HQ2
  rw [eX] at HQ1 HQ2
  clear eX h1
  rcases printF_or ⟨k, st, lt, wi⟩ with ⟨hp, hok⟩ | hp
  · have HQ3 := Lib.hid (fun w' (hB : Below w.heap.size w w') => fparse_any (textF ⟨k, st, lt, wi⟩) (Nat.le_trans (textF_len _ hok) (by omega)) w' (hDt.below hB))
    rw [parseF_hit hok] at HQ3
    have eF : (⟨k, st, lt, wi⟩ : Flt).enc = #[.int .i64 k, .int .i64 st, .int .i64 lt, .int .i64 wi] := rfl
    rw [hp] at HP1 HP2
    dsimp only at HP1 HP2 HQ3
    rw [eF] at HQ3
    obtain ⟨T, hT⟩ : ∃ T, Hid (textF ⟨k, st, lt, wi⟩ = T) := ⟨_, Lib.hid rfl⟩
    rw [hT.out] at HP1 HP2 HQ3
    have tT : (bN T).toList = T := Lib.toList_data _
    clear hp hok eF
    go_enter Tryz.func5, Tryz.ntmps5
    go_wp2_with fail
    refine (HP1.out _ hBB).mono ?_
    rintro e w1 ⟨rfl, hB1⟩
    have k1 := kF.below' hB1
    have q1 := hBB.trans (hB1.mono hBB.size)
    have a0 := k1.cell 0 _ rfl
    have a1 := k1.cell 1 _ rfl
    have a2 := k1.cell 2 _ rfl
    have a3 := k1.cell 3 _ rfl
    go_wp2_with fail
    clear a0 a1 a2 a3
    refine (HP2.out _).mono ?_
    rintro e w2 ⟨rfl, hB2⟩
    have k2 := k1.below' hB2
    have q2 := q1.trans (hB2.mono q1.size)
    go_wp2_with fail
    refine (HQ1.out _ q2).mono ?_
    rintro e w3 ⟨rfl, hB3⟩
    have k3 := (k2.below' hB3).alloc (.cells #[.int .i64 x0, .int .i64 x1, .int .i64 x2, .int .i64 x3] 41)
    have kX3 := Blk.new w3 41 #[.int .i64 x0, .int .i64 x1, .int .i64 x2, .int .i64 x3]
    have q3' := q2.trans (hB3.mono q2.size)
    have q3 := q3'.alloc q3'.size (.cells #[.int .i64 x0, .int .i64 x1, .int .i64 x2, .int .i64 x3] 41)
    have lX := q3'.size
    clear k1 k2
    go_wp2_with fail
    generalize w3.alloc (.cells #[.int .i64 x0, .int .i64 x1, .int .i64 x2, .int .i64 x3] 41) = W3 at *
    refine (HQ2.out _).mono ?_
    rintro e w4 ⟨rfl, hB4⟩
    have k4 := (k3.below' hB4).alloc (.cells #[.int .i64 x0, .int .i64 x1, .int .i64 x2, .int .i64 x3] 41)
    have kX4 := (kX3.below' hB4).alloc (.cells #[.int .i64 x0, .int .i64 x1, .int .i64 x2, .int .i64 x3] 41)
    have kY4 := Blk.new w4 41 #[.int .i64 x0, .int .i64 x1, .int .i64 x2, .int .i64 x3]
    have q4' := q3.trans (hB4.mono q3.size)
    have q4 := q4'.alloc q4'.size (.cells #[.int .i64 x0, .int .i64 x1, .int .i64 x2, .int .i64 x3] 41)
    have b0 := kX4.cell 0 _ rfl
    have b1 := kX4.cell 1 _ rfl
    have b2 := kX4.cell 2 _ rfl
    have b3 := kX4.cell 3 _ rfl
    have c0 := kY4.cell 0 _ rfl
    have c1 := kY4.cell 1 _ rfl
    have c2 := kY4.cell 2 _ rfl
    have c3 := kY4.cell 3 _ rfl
    go_wp2_with fail
    clear b0 b1 b2 b3 c0 c1 c2 c3
    generalize w4.alloc (.cells #[.int .i64 x0, .int .i64 x1, .int .i64 x2, .int .i64 x3] 41) = W4 at *
    refine (HQ3.out _ q4).mono ?_
    rintro e w5 ⟨rfl, hB5⟩
    have k5 := k4.below' hB5
    have kX5 := kX4.below' hB5
    have q5 := q4.trans (hB5.mono q4.size)
    have b0 := kX5.cell 0 _ rfl
    have d0 := kX5.frozen 0
    have kXa := kX5.set_ 0 (.int .i64 k)
    have b1 := kXa.cell 1 _ rfl
    have d1 := kXa.frozen 1
    have kXb := kXa.set_ 1 (.int .i64 st)
    have b2 := kXb.cell 2 _ rfl
    have d2 := kXb.frozen 2
    have kXc := kXb.set_ 2 (.int .i64 lt)
    have b3 := kXc.cell 3 _ rfl
    have d3 := kXc.frozen 3
    have kXd := kXc.set_ 3 (.int .i64 wi)
    have bxl := kX5.lt
    have hne : w.heap.size ≠ w3.heap.size := by have := hBB.size; have := q1.size; have h9 := hB3.size; have h8 := hB2.size; have h7 := hB1.size; simp at h7; omega
    have kd := (((k5.far (p := ⟨w3.heap.size, 0, none⟩) hne (.int .i64 k)).far (p := ⟨w3.heap.size, 1, none⟩) hne (.int .i64 st)).far (p := ⟨w3.heap.size, 2, none⟩) hne (.int .i64 lt)).far (p := ⟨w3.heap.size, 3, none⟩) hne (.int .i64 wi)
    have qd := (((q5.setCell (p := ⟨w3.heap.size, 0, none⟩) lX (.int .i64 k)).setCell (p := ⟨w3.heap.size, 1, none⟩) lX (.int .i64 st)).setCell (p := ⟨w3.heap.size, 2, none⟩) lX (.int .i64 lt)).setCell (p := ⟨w3.heap.size, 3, none⟩) lX (.int .i64 wi)
    have a0 := kd.cell 0 _ rfl
    have a1 := kd.cell 1 _ rfl
    have a2 := kd.cell 2 _ rfl
    have a3 := kd.cell 3 _ rfl
    have g0 := kXd.cell 0 (.int .i64 k) rfl
    have g1 := kXd.cell 1 (.int .i64 st) rfl
    have g2 := kXd.cell 2 (.int .i64 lt) rfl
    have g3 := kXd.cell 3 (.int .i64 wi) rfl
    go_wp2_with fail
    refine (HA.out _).mono ?_
    rintro e w6 ⟨rfl, hB6⟩
    go_wp2_with fail
    go_ret
    exact ⟨rfl, qd.trans (hB6.mono qd.size)⟩
  · obtain ⟨⟨T, E1⟩, hT⟩ : ∃ X, Hid (printF ⟨k, st, lt, wi⟩ = X) := ⟨_, Lib.hid rfl⟩
    rw [hT.out] at HP1 HP2 hp
    dsimp only at HP1 HP2 hp
    have e1 : (E1 == 0) = false := beq_eq_false_iff_ne.2 hp
    have tT : (bN T).toList = T := Lib.toList_data _
    clear hp
    go_enter Tryz.func5, Tryz.ntmps5
    go_wp2_with fail
    refine (HP1.out _ hBB).mono ?_
    rintro e w1 ⟨rfl, hB1⟩
    have k1 := kF.below' hB1
    have q1 := hBB.trans (hB1.mono hBB.size)
    have a0 := k1.cell 0 _ rfl
    have a1 := k1.cell 1 _ rfl
    have a2 := k1.cell 2 _ rfl
    have a3 := k1.cell 3 _ rfl
    go_wp2_with fail
    clear a0 a1 a2 a3
    refine (HP2.out _).mono ?_
    rintro e w2 ⟨rfl, hB2⟩
    have q2 := q1.trans (hB2.mono q1.size)
    go_wp2_with fail
    refine (HQ1.out _ q2).mono ?_
    rintro e w3 ⟨rfl, hB3⟩
    have kX3 := Blk.new w3 41 #[.int .i64 x0, .int .i64 x1, .int .i64 x2, .int .i64 x3]
    have q3' := q2.trans (hB3.mono q2.size)
    have q3 := q3'.alloc q3'.size (.cells #[.int .i64 x0, .int .i64 x1, .int .i64 x2, .int .i64 x3] 41)
    clear k1
    go_wp2_with fail
    generalize w3.alloc (.cells #[.int .i64 x0, .int .i64 x1, .int .i64 x2, .int .i64 x3] 41) = W3 at *
    refine (HQ2.out _).mono ?_
    rintro e w4 ⟨rfl, hB4⟩
    have kX4 := (kX3.below' hB4).alloc (.cells #[.int .i64 x0, .int .i64 x1, .int .i64 x2, .int .i64 x3] 41)
    have kY4 := Blk.new w4 41 #[.int .i64 x0, .int .i64 x1, .int .i64 x2, .int .i64 x3]
    have q4' := q3.trans (hB4.mono q3.size)
    have q4 := q4'.alloc q4'.size (.cells #[.int .i64 x0, .int .i64 x1, .int .i64 x2, .int .i64 x3] 41)
    have b0 := kX4.cell 0 _ rfl
    have b1 := kX4.cell 1 _ rfl
    have b2 := kX4.cell 2 _ rfl
    have b3 := kX4.cell 3 _ rfl
    have c0 := kY4.cell 0 _ rfl
    have c1 := kY4.cell 1 _ rfl
    have c2 := kY4.cell 2 _ rfl
    have c3 := kY4.cell 3 _ rfl
    go_wp2_with fail
    clear b0 b1 b2 b3 c0 c1 c2 c3
    generalize w4.alloc (.cells #[.int .i64 x0, .int .i64 x1, .int .i64 x2, .int .i64 x3] 41) = W4 at *
    refine (HA.out _).mono ?_
    rintro e w6 ⟨rfl, hB6⟩
    go_wp2_with fail
    go_ret
    exact ⟨rfl, q4.trans (hB6.mono q4.size)⟩
end Go.Proofs.YtmfklcnocekdlaaGreatDoor

