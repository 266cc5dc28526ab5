/- The law CompileFewest, walked. -/
import Derived.Test.YtogkgoabonbkkaaOrder
set_option linter.unusedSimpArgs false
set_option linter.unusedVariables false
namespace Go.Proofs.Ytogkgoabonbkkaa
open Go Go.RowKit Tor

theorem _root_.Tor.Own.rdT {w : World} {base : Nat} {e : TypeId} {A : Option Addr} {n c : Nat} {l : List Tri} (h : Own 3 Tri.enc w base e (.slice A n c) l) : RdT w w.heap.size A l := by
  obtain ⟨A', c', e, _, hr⟩ := Own.rd tri_len h
  injection e with e1 _ _
  rw [e1]; exact hr
theorem chk_of {P S : Int} {l : List Tri} (h1 : sheetE P l = 0) (h2 : handsE P S = 0) : chkE P l S = 0 := by
  unfold handsE at h2
  split at h2
  · rename_i h
    unfold chkE
    rw [if_pos h1, if_pos h.2.2]
  · cases h2
theorem reachesN_le' (l : List Tri) : reachesN l ≤ l.length := by unfold reachesN; exact List.length_filter_le _ _

theorem lawFewest_far (P S : Int) (A : Option Addr) (l : List Tri) (c : Nat) (w : World) (H : Nat) (hr : RdT w H A l) (hH : H ≤ w.heap.size)
    (hw : ∀ (k : Nat) (hk : k < l.length), l[k].s.size ≤ 9223372036854775807) (hl : l.length ≤ 9223372036854775807) (h : 1000 < l.length) :
    Calls Try.prog 8 #[.int .i64 P, .int .i64 S, .slice A l.length c] w (Ret (.bool true) w) := by
  have HW := Lib.hid hw
  have HRB := Lib.hid (show ∀ w', Below w.heap.size w w' → RdT w' H A l from fun w' hB => hr.below' hB hH)
  have hl' : (1000 : Int) < (l.length : Int) := by omega
  clear hw hr h
  go_enter Try.func8, Try.ntmps8
  go_wp2_with (first
    | (go_at_call 11; refine (awake_any _).mono ?_; rintro e w9 ⟨rfl, hB9⟩)
    | fail)
  go_ret
  exact Ret.bool rfl hB9

set_option maxRecDepth 100000 in
theorem lawFewest_err (P S : Int) (A : Option Addr) (l : List Tri) (c : Nat) (w : World) (H : Nat) (hr : RdT w H A l) (hH : H ≤ w.heap.size)
    (hw : ∀ (k : Nat) (hk : k < l.length), l[k].s.size ≤ 9223372036854775807) (hl : l.length ≤ 9223372036854775807) (h : l.length ≤ 1000) (he : (sheetR P S l).2.2.2 ≠ 0) :
    Calls Try.prog 8 #[.int .i64 P, .int .i64 S, .slice A l.length c] w (Ret (.bool true) w) := by
  have HW := Lib.hid hw
  have HRB := Lib.hid (show ∀ w', Below w.heap.size w w' → RdT w' H A l from fun w' hB => hr.below' hB hH)
  have hl' : ¬ (1000 : Int) < (l.length : Int) := by omega
  obtain ⟨Q, hQ⟩ : ∃ Q, Hid ((sheetR P S l).1 = Q) := ⟨_, Lib.hid rfl⟩
  obtain ⟨M, hM⟩ : ∃ M, Hid ((sheetR P S l).2.1 = M) := ⟨_, Lib.hid rfl⟩
  obtain ⟨I, hI⟩ : ∃ I, Hid ((sheetR P S l).2.2.1 = I) := ⟨_, Lib.hid rfl⟩
  obtain ⟨Er, hE⟩ : ∃ E, Hid ((sheetR P S l).2.2.2 = E) := ⟨_, Lib.hid rfl⟩
  rw [hE.out] at he
  have t1 : (Er != 0) = true := by simp [he]
  have hl3 : l.length ≤ 100000 := by omega
  clear hw hr h he
  go_enter Try.func8, Try.ntmps8
  go_wp2_with (first
    | (go_at_call 20; refine (rsheet_any P S A l c _ H (HRB.out _ (Below.refl _ _)) hH HW.out hl3).mono ?_; rintro e w3 ⟨v3, rfl, hown3, hB3⟩; rw [hM.out] at hown3; rw [hQ.out, hI.out, hE.out]
       obtain ⟨A3, c3, rfl, hc3, hd3⟩ := Own.rd tri_len hown3
       have hz3 := hB3.size)
    | (go_at_call 11; refine (awake_any _).mono ?_; rintro e w9 ⟨rfl, hB9⟩))
  go_ret
  exact Ret.bool rfl ((hB3.alloc hz3 _).trans (hB9.mono (by simp; omega)))

set_option maxRecDepth 100000 in
theorem lawFewest_big (P S : Int) (A : Option Addr) (l : List Tri) (c : Nat) (w : World) (H : Nat) (hr : RdT w H A l) (hH : H ≤ w.heap.size)
    (hw : ∀ (k : Nat) (hk : k < l.length), l[k].s.size ≤ 9223372036854775807) (hl : l.length ≤ 9223372036854775807) (h : l.length ≤ 1000) (he : (sheetR P S l).2.2.2 = 0) (hn : 120 < (sheetR P S l).2.1.length) :
    Calls Try.prog 8 #[.int .i64 P, .int .i64 S, .slice A l.length c] w (Ret (.bool true) w) := by
  have HW := Lib.hid hw
  have HRB := Lib.hid (show ∀ w', Below w.heap.size w w' → RdT w' H A l from fun w' hB => hr.below' hB hH)
  have hl' : ¬ (1000 : Int) < (l.length : Int) := by omega
  obtain ⟨hh, _, hok, hR⟩ := sheetR_inv he
  have hbd := hands_bd hh
  obtain ⟨p, rfl⟩ : ∃ p : Nat, P = p := ⟨P.toNat, by omega⟩
  obtain ⟨s, rfl⟩ : ∃ s : Nat, S = s := ⟨S.toNat, by omega⟩
  have HH := Lib.hid hh
  have o1 := Lib.hid hok
  have hwk0 := okS_works l _ _ hok
  have hopt0 := C_opt hbd.2.2.1 hbd.2.2.2.2 hok
  obtain ⟨Ws, HWs⟩ : ∃ Ws, Hid (worksOf l = Ws) := ⟨_, Lib.hid rfl⟩
  rw [hR] at hn
  simp only at hn
  rw [HWs.out] at hn hwk0 hopt0
  have t1 : (120 : Int) < (Ws.length : Int) := by omega
  clear hw hr he hh hok hR hopt0 hn
  go_enter Try.func8, Try.ntmps8
  go_wp2_with (first
    | (go_at_call 20; refine (rsheet_ok p s A l Ws c _ H (HRB.out _ (Below.refl _ _)) hH HH.out (by omega) o1.out HWs.out).mono ?_; rintro e w2 ⟨A2, c2, rfl, hown2, hc2, hB2⟩
       have hz2 := hB2.size
       have hown2a := hown2.alloc (.cells #[.int .i64 p, .slice A2 Ws.length c2] 24)
       have hBX : Below w.heap.size w (w2.alloc (.cells #[.int .i64 p, .slice A2 Ws.length c2] 24)) := hB2.alloc hz2 _
       have kX := Blk.new w2 24 #[.int .i64 p, .slice A2 Ws.length c2]
       generalize hW2 : w2.alloc (.cells #[.int .i64 p, .slice A2 Ws.length c2] 24) = W2 at *
       have hzX := hBX.size
       have x0 := kX.cell 0 _ rfl
       have x1 := kX.cell 1 _ rfl
       have x2 := kX.lt
       clear o1)
    | (go_at_call 11; refine (awake_any _).mono ?_; rintro e w9 ⟨rfl, hB9⟩))
  go_ret
  exact Ret.bool rfl (hBX.trans (hB9.mono hzX))

set_option maxRecDepth 100000 in
set_option maxHeartbeats 2000000 in
theorem lawFewest_mid (P S : Int) (A : Option Addr) (l : List Tri) (c : Nat) (w : World) (H : Nat) (hr : RdT w H A l) (hH : H ≤ w.heap.size)
    (hw : ∀ (k : Nat) (hk : k < l.length), l[k].s.size ≤ 9223372036854775807) (hl : l.length ≤ 9223372036854775807) (h : l.length ≤ 1000) (he : (sheetR P S l).2.2.2 = 0) (hn : (sheetR P S l).2.1.length ≤ 120) (h10 : 10 < (sheetR P S l).2.1.length) :
    Calls Try.prog 8 #[.int .i64 P, .int .i64 S, .slice A l.length c] w (Ret (.bool true) w) := by
  have HW := Lib.hid hw
  have HRB := Lib.hid (show ∀ w', Below w.heap.size w w' → RdT w' H A l from fun w' hB => hr.below' hB hH)
  have hl' : ¬ (1000 : Int) < (l.length : Int) := by omega
  obtain ⟨hh, _, hok, hR⟩ := sheetR_inv he
  have hbd := hands_bd hh
  obtain ⟨p, rfl⟩ : ∃ p : Nat, P = p := ⟨P.toNat, by omega⟩
  obtain ⟨s, rfl⟩ : ∃ s : Nat, S = s := ⟨S.toNat, by omega⟩
  have HH := Lib.hid hh
  have o1 := Lib.hid hok
  have hwk0 := okS_works l _ _ hok
  have hopt0 := C_opt hbd.2.2.1 hbd.2.2.2.2 hok
  obtain ⟨Ws, HWs⟩ : ∃ Ws, Hid (worksOf l = Ws) := ⟨_, Lib.hid rfl⟩
  rw [hR] at hn h10
  simp only at hn h10
  rw [HWs.out] at hn h10 hwk0 hopt0
  have hsh := sheetE_of (p := (p : Int)) (by omega) (by omega) (show Ws.length ≤ 400 by omega) hwk0
  have hchk := chk_of hsh hh
  have HK := Lib.hid hwk0
  have HC := Lib.hid hchk
  have t1 : ¬ (120 : Int) < (Ws.length : Int) := by omega
  -- Steps
  have s1 := rst_len (p : Int) (s : Int) Ws (-1)
  have s2 : reachesN (rst (p : Int) (s : Int) Ws (-1)) = C p s Ws := rfl
  -- Quick
  have q0 := rq_ok (l := Ws) (P := p) (S := s) (by omega) (by omega) (by omega) hwk0 (by omega) (2 * Ws.length + 1) [] (-1) List.nodup_nil (by simp)
  have q3 := rq_len Ws p s (2 * Ws.length + 1) [] (-1)
  have q5 := rqo_lin (l := Ws) (P := p) (S := s) (by omega) (by omega) (by omega) (wok_b hwk0) (2 * Ws.length + 1) [] (-1) List.nodup_nil (by simp)
  have q7 := q5.2 (by left; split <;> simp)
  have q8 := C_opt hbd.2.2.1 hbd.2.2.2.2 q0.1
  rw [q0.2] at q8
  have S4 := Lib.hid (fun (w' : World) (A' : Option Addr) (c' H' : Nat) (hr' : RdT w' H' A' Ws) (hH' : H' ≤ w'.heap.size) => cSteps_ins p s A' Ws c' w' H' hr' hH' HK.out HC.out)
  have Q4 := Lib.hid (fun (w' : World) (A' : Option Addr) (c' H' : Nat) (hr' : RdT w' H' A' Ws) (hH' : H' ≤ w'.heap.size) => cQuick_ins p s A' Ws c' w' H' hr' hH' HK.out HC.out)
  generalize rst (p : Int) (s : Int) Ws (-1) = L1 at s1 s2 S4
  generalize rq Ws p s (2 * Ws.length + 1) [] (-1) = L2 at q3 q8 Q4
  obtain ⟨g, hg⟩ : ∃ g, Hid (reachesN l = g) := ⟨_, Lib.hid rfl⟩
  obtain ⟨n1, hn1⟩ : ∃ g, Hid (reachesN L1 = g) := ⟨_, Lib.hid rfl⟩
  obtain ⟨n2, hn2⟩ : ∃ g, Hid (reachesN L2 = g) := ⟨_, Lib.hid rfl⟩
  rw [hn1.out] at s2
  rw [hn2.out] at q8
  rw [hg.out] at hopt0
  have f1 : (n1 : Int) ≤ (g : Int) := by omega
  have t10 : (10 : Int) < (Ws.length : Int) := by omega
  have tkA := True.intro
  have tkE := True.intro
  clear hw hr he hh hok hR hopt0 hn hsh hchk hwk0 q0 q5 q7 q8 s2 h10
  go_enter Try.func8, Try.ntmps8
  go_wp2_with (first
    | (go_at_call 20; refine (rsheet_ok p s A l Ws c _ H (HRB.out _ (Below.refl _ _)) hH HH.out (by omega) o1.out HWs.out).mono ?_; rintro e w2 ⟨A2, c2, rfl, hown2, hc2, hB2⟩
       have hz2 := hB2.size
       have hown2a := hown2.alloc (.cells #[.int .i64 p, .slice A2 Ws.length c2] 24)
       have hBX : Below w.heap.size w (w2.alloc (.cells #[.int .i64 p, .slice A2 Ws.length c2] 24)) := hB2.alloc hz2 _
       have kX := Blk.new w2 24 #[.int .i64 p, .slice A2 Ws.length c2]
       generalize hW2 : w2.alloc (.cells #[.int .i64 p, .slice A2 Ws.length c2] 24) = W2 at *
       have hzX := hBX.size
       have x0 := kX.cell 0 _ rfl
       have x1 := kX.cell 1 _ rfl
       have x2 := kX.lt
       clear o1)
    | (go_at_call 25; have := tkA; refine (rreaches_any A l c _ H hl (HRB.out _ hBX) (Nat.le_trans hH hzX)).mono ?_; rintro e w3 ⟨rfl, hB3⟩; rw [hg.out]
       have kX3 := kX.below' hB3
       have y0 := kX3.cell 0 _ rfl
       have y1 := kX3.cell 1 _ rfl
       have y2 := kX3.lt
       have hd3 := (hown2a.below hB3).rdT
       have hB3' := hBX.trans (hB3.mono hzX)
       have hz3 := hB3'.size
       clear x0 x1 x2 tkA kX hown2 hown2a)
    | (go_at_call 19; refine (S4.out w3 A2 c2 _ hd3 (Nat.le_refl _)).mono ?_; rintro e w4 ⟨A4, c4, rfl, hd4, hB4⟩
       have kX4 := kX3.below' hB4
       have y0 := kX4.cell 0 _ rfl
       have y1 := kX4.cell 1 _ rfl
       have y2 := kX4.lt
       have hX4 := hd3.below' hB4 (Nat.le_refl _)
       have hs4 := hB4.size
       have hB4' := hB3'.trans (hB4.mono hz3)
       have hz4 := hB4'.size
       clear hd3 kX3)
    | (go_at_call 12; refine (Q4.out w4 A2 c2 _ hX4 hs4).mono ?_; rintro e w5 ⟨A5, c5, rfl, hd5, hB5⟩
       have kX5 := kX4.below' hB5
       have y0 := kX5.cell 0 _ rfl
       have y1 := kX5.cell 1 _ rfl
       have y2 := kX5.lt
       have hs5 := hB5.size
       have hX5 := hX4.below' hB5 hs4
       have hd4' := hd4.below' hB5 (Nat.le_refl _)
       have hB5' := hB4'.trans (hB5.mono hz4)
       have hz5 := hB5'.size
       clear hX4 kX4 hd4)
    | (go_at_call 27; have := tkE; refine (creaches_any A4 L1 c4 w5 w4.heap.size (by omega) hd4' hs5).mono ?_; rintro e w6 ⟨rfl, hB6⟩; rw [hn1.out]
       have kX6 := kX5.below' hB6
       have y0 := kX6.cell 0 _ rfl
       have y1 := kX6.cell 1 _ rfl
       have y2 := kX6.lt
       have hs6 := hB6.size
       have hX6 := hX5.below' hB6 (Nat.le_trans hs4 hs5)
       have hd46 := hd4'.below' hB6 hs5
       have hd56 := hd5.below' hB6 (Nat.le_refl _)
       have hB6' := hB5'.trans (hB6.mono hz5)
       have hz6 := hB6'.size
       have hs36 := Nat.le_trans hs4 (Nat.le_trans hs5 hs6)
       have hs46 := Nat.le_trans hs5 hs6
       clear hX5 kX5 hd4' hd5 tkE)
    | (go_at_call 11; refine (awake_any _).mono ?_; rintro e w9 ⟨rfl, hB9⟩))
  go_ret
  exact Ret.bool rfl (hB6'.trans (hB9.mono hz6))

set_option maxRecDepth 100000 in
set_option maxHeartbeats 4000000 in
theorem lawFewest_small (P S : Int) (A : Option Addr) (l : List Tri) (c : Nat) (w : World) (H : Nat) (hr : RdT w H A l) (hH : H ≤ w.heap.size)
    (hw : ∀ (k : Nat) (hk : k < l.length), l[k].s.size ≤ 9223372036854775807) (hl : l.length ≤ 9223372036854775807) (h : l.length ≤ 1000) (he : (sheetR P S l).2.2.2 = 0) (hn : (sheetR P S l).2.1.length ≤ 120) (h10 : (sheetR P S l).2.1.length ≤ 10) :
    Calls Try.prog 8 #[.int .i64 P, .int .i64 S, .slice A l.length c] w (Ret (.bool true) w) := by
  have HW := Lib.hid hw
  have HRB := Lib.hid (show ∀ w', Below w.heap.size w w' → RdT w' H A l from fun w' hB => hr.below' hB hH)
  have hl' : ¬ (1000 : Int) < (l.length : Int) := by omega
  obtain ⟨hh, _, hok, hR⟩ := sheetR_inv he
  have hbd := hands_bd hh
  obtain ⟨p, rfl⟩ : ∃ p : Nat, P = p := ⟨P.toNat, by omega⟩
  obtain ⟨s, rfl⟩ : ∃ s : Nat, S = s := ⟨S.toNat, by omega⟩
  have HH := Lib.hid hh
  have o1 := Lib.hid hok
  have hwk0 := okS_works l _ _ hok
  have hopt0 := C_opt hbd.2.2.1 hbd.2.2.2.2 hok
  obtain ⟨Ws, HWs⟩ : ∃ Ws, Hid (worksOf l = Ws) := ⟨_, Lib.hid rfl⟩
  rw [hR] at hn h10
  simp only at hn h10
  rw [HWs.out] at hn h10 hwk0 hopt0
  have hsh := sheetE_of (p := (p : Int)) (by omega) (by omega) (show Ws.length ≤ 400 by omega) hwk0
  have hchk := chk_of hsh hh
  have HK := Lib.hid hwk0
  have HC := Lib.hid hchk
  have t1 : ¬ (120 : Int) < (Ws.length : Int) := by omega
  -- Steps
  have s1 := rst_len (p : Int) (s : Int) Ws (-1)
  have s2 : reachesN (rst (p : Int) (s : Int) Ws (-1)) = C p s Ws := rfl
  -- Quick
  have q0 := rq_ok (l := Ws) (P := p) (S := s) (by omega) (by omega) (by omega) hwk0 (by omega) (2 * Ws.length + 1) [] (-1) List.nodup_nil (by simp)
  have q3 := rq_len Ws p s (2 * Ws.length + 1) [] (-1)
  have q5 := rqo_lin (l := Ws) (P := p) (S := s) (by omega) (by omega) (by omega) (wok_b hwk0) (2 * Ws.length + 1) [] (-1) List.nodup_nil (by simp)
  have q7 := q5.2 (by left; split <;> simp)
  have q8 := C_opt hbd.2.2.1 hbd.2.2.2.2 q0.1
  rw [q0.2] at q8
  -- Best
  have b22 : ∀ (k : Nat) (hk : k < Ws.length), 0 ≤ Ws[k].b ∧ Ws[k].b ≤ 22 := fun k hk => by have := wok_b hwk0 k hk; omega
  obtain ⟨l1, l2⟩ := leastO_lin b22
  have c1 := best_comp (p := (p : Int)) (s := (s : Int)) hbd.2.2.1 hbd.2.2.2.2 hwk0 h10 l1 l2 (lin_id (l := Ws)) (by simp)
  rw [map_id'] at c1
  have c2' := best_comp (p := (p : Int)) (s := (s : Int)) hbd.2.2.1 hbd.2.2.2.2 hwk0 h10 l1 l2 q5.1 (by simpa using q7)
  have R4 := Lib.hid (fun (w' : World) (A' : Option Addr) (c' : Nat) (B' : Option Addr) (co H' : Nat) (hr' : RdT w' H' A' Ws) (ho : RdI w' H' B' (natI (leastO Ws))) (hH' : H' ≤ w'.heap.size) => reorder_any p A' Ws c' B' (leastO Ws) co w' H' hr' ho hH' hwk0 (by omega) (by omega) (by omega) l1 l2)
  have L4 := Lib.hid (fun (w' : World) (A' : Option Addr) (c' H' : Nat) (hr' : RdT w' H' A' Ws) (hH' : H' ≤ w'.heap.size) => least_any p A' Ws c' w' H' hr' hH' hwk0 (by omega) (by omega) (by omega))
  have hnl : (natI (leastO Ws)).length = Ws.length := by rw [natI_len, l2]
  have hml : ((leastO Ws).map (xAt Ws)).length = Ws.length := by rw [List.length_map, l2]
  have hmk : ∀ x ∈ (leastO Ws).map (xAt Ws), WOk (p : Int) x := lin_wok hwk0 l1
  generalize natI (leastO Ws) = NO at R4 L4 hnl
  generalize (leastO Ws).map (xAt Ws) = M at R4 c1 c2' hml hmk
  have hshM := sheetE_of (p := (p : Int)) (by omega) (by omega) (show M.length ≤ 400 by omega) hmk
  have hchkM := chk_of hshM hh
  have B4 := Lib.hid (fun (w' : World) (A' : Option Addr) (c' H' : Nat) (hr' : RdT w' H' A' M) (hH' : H' ≤ w'.heap.size) (hc' : M.length ≤ c') => cBest_ins p s A' M c' w' H' hr' hH' hmk hchkM (by omega) hc')
  have b1 := rst_len (p : Int) (s : Int) ((bestO p s M).map (xAt M)) (-1)
  rw [List.length_map, (bestO_lin (p := (p : Int)) (s := (s : Int)) (show M.length ≤ 10 by omega)).2] at b1
  have b2 : reachesN (rst (p : Int) (s : Int) ((bestO p s M).map (xAt M)) (-1)) = C p s ((bestO p s M).map (xAt M)) := rfl
  generalize rst (p : Int) (s : Int) ((bestO p s M).map (xAt M)) (-1) = L3 at b1 b2 B4
  have S4 := Lib.hid (fun (w' : World) (A' : Option Addr) (c' H' : Nat) (hr' : RdT w' H' A' Ws) (hH' : H' ≤ w'.heap.size) => cSteps_ins p s A' Ws c' w' H' hr' hH' HK.out HC.out)
  have Q4 := Lib.hid (fun (w' : World) (A' : Option Addr) (c' H' : Nat) (hr' : RdT w' H' A' Ws) (hH' : H' ≤ w'.heap.size) => cQuick_ins p s A' Ws c' w' H' hr' hH' HK.out HC.out)
  generalize rst (p : Int) (s : Int) Ws (-1) = L1 at s1 s2 S4
  generalize rq Ws p s (2 * Ws.length + 1) [] (-1) = L2 at q3 q8 Q4
  obtain ⟨g, hg⟩ : ∃ g, Hid (reachesN l = g) := ⟨_, Lib.hid rfl⟩
  obtain ⟨n1, hn1⟩ : ∃ g, Hid (reachesN L1 = g) := ⟨_, Lib.hid rfl⟩
  obtain ⟨n2, hn2⟩ : ∃ g, Hid (reachesN L2 = g) := ⟨_, Lib.hid rfl⟩
  rw [hn1.out] at s2
  rw [hn2.out] at q8
  rw [hg.out] at hopt0
  obtain ⟨n3, hn3⟩ : ∃ g, Hid (reachesN L3 = g) := ⟨_, Lib.hid rfl⟩
  rw [hn3.out] at b2
  have f1 : (n1 : Int) ≤ (g : Int) := by omega
  have f2 : (n3 : Int) ≤ (g : Int) := by omega
  have f3 : (n3 : Int) ≤ (n1 : Int) := by omega
  have f4 : (n3 : Int) ≤ (n2 : Int) := by omega
  have t10 : ¬ (10 : Int) < (Ws.length : Int) := by omega
  have hL3 : L3.length ≤ 1000 := by omega
  have hM10 : M.length ≤ 10 := by omega
  have HNL := Lib.hid hnl
  have HML := Lib.hid hml
  have tkA := True.intro
  have tkE := True.intro
  have tkI := True.intro
  have tkJ := True.intro
  clear hw hr he hh hok hR hopt0 hn hsh hchk hwk0 q0 q5 q7 q8 s2 h10 c1 c2' l1 l2 b22 hnl hml hmk hshM hchkM b2 b1
  go_enter Try.func8, Try.ntmps8
  go_wp2_with (first
    | (go_at_call 20; refine (rsheet_ok p s A l Ws c _ H (HRB.out _ (Below.refl _ _)) hH HH.out (by omega) o1.out HWs.out).mono ?_; rintro e w2 ⟨A2, c2, rfl, hown2, hc2, hB2⟩
       have hz2 := hB2.size
       have hown2a := hown2.alloc (.cells #[.int .i64 p, .slice A2 Ws.length c2] 24)
       have hBX : Below w.heap.size w (w2.alloc (.cells #[.int .i64 p, .slice A2 Ws.length c2] 24)) := hB2.alloc hz2 _
       have kX := Blk.new w2 24 #[.int .i64 p, .slice A2 Ws.length c2]
       generalize hW2 : w2.alloc (.cells #[.int .i64 p, .slice A2 Ws.length c2] 24) = W2 at *
       have hzX := hBX.size
       have x0 := kX.cell 0 _ rfl
       have x1 := kX.cell 1 _ rfl
       have x2 := kX.lt
       clear o1)
    | (go_at_call 25; have := tkA; refine (rreaches_any A l c _ H hl (HRB.out _ hBX) (Nat.le_trans hH hzX)).mono ?_; rintro e w3 ⟨rfl, hB3⟩; rw [hg.out]
       have kX3 := kX.below' hB3
       have y0 := kX3.cell 0 _ rfl
       have y1 := kX3.cell 1 _ rfl
       have y2 := kX3.lt
       have hd3 := (hown2a.below hB3).rdT
       have hB3' := hBX.trans (hB3.mono hzX)
       have hz3 := hB3'.size
       clear x0 x1 x2 tkA kX hown2 hown2a)
    | (go_at_call 19; refine (S4.out w3 A2 c2 _ hd3 (Nat.le_refl _)).mono ?_; rintro e w4 ⟨A4, c4, rfl, hd4, hB4⟩
       have kX4 := kX3.below' hB4
       have y0 := kX4.cell 0 _ rfl
       have y1 := kX4.cell 1 _ rfl
       have y2 := kX4.lt
       have hX4 := hd3.below' hB4 (Nat.le_refl _)
       have hs4 := hB4.size
       have hB4' := hB3'.trans (hB4.mono hz3)
       have hz4 := hB4'.size
       clear hd3 kX3)
    | (go_at_call 12; refine (Q4.out w4 A2 c2 _ hX4 hs4).mono ?_; rintro e w5 ⟨A5, c5, rfl, hd5, hB5⟩
       have kX5 := kX4.below' hB5
       have y0 := kX5.cell 0 _ rfl
       have y1 := kX5.cell 1 _ rfl
       have y2 := kX5.lt
       have hs5 := hB5.size
       have hX5 := hX4.below' hB5 hs4
       have hd4' := hd4.below' hB5 (Nat.le_refl _)
       have hB5' := hB4'.trans (hB5.mono hz4)
       have hz5 := hB5'.size
       clear hX4 kX4 hd4)
    | (go_at_call 27; have := tkE; refine (creaches_any A4 L1 c4 w5 w4.heap.size (by omega) hd4' hs5).mono ?_; rintro e w6 ⟨rfl, hB6⟩; rw [hn1.out]
       have kX6 := kX5.below' hB6
       have y0 := kX6.cell 0 _ rfl
       have y1 := kX6.cell 1 _ rfl
       have y2 := kX6.lt
       have hs6 := hB6.size
       have hX6 := hX5.below' hB6 (Nat.le_trans hs4 hs5)
       have hd46 := hd4'.below' hB6 hs5
       have hd56 := hd5.below' hB6 (Nat.le_refl _)
       have hB6' := hB5'.trans (hB6.mono hz5)
       have hz6 := hB6'.size
       have hs36 := Nat.le_trans hs4 (Nat.le_trans hs5 hs6)
       have hs46 := Nat.le_trans hs5 hs6
       clear hX5 kX5 hd4' hd5 tkE)
    | (go_at_call 28; refine (L4.out w6 A2 c2 _ hX6 hs36).mono ?_; rintro e w7 ⟨v7, rfl, hown7, hB7⟩
       obtain ⟨A7, c7, hv7, _, hd7⟩ := Own.rd int_len hown7
       rw [HNL.out] at hv7
       subst hv7
       have kX7 := kX6.below' hB7
       have y0 := kX7.cell 0 _ rfl
       have y1 := kX7.cell 1 _ rfl
       have y2 := kX7.lt
       have hs7 := hB7.size
       have hX7 := hX6.below' hB7 hs36
       have hd47 := hd46.below' hB7 hs46
       have hd57 := hd56.below' hB7 hs6
       have hB7' := hB6'.trans (hB7.mono hz6)
       have hz7 := hB7'.size
       clear hX6 kX6 hd46 hd56)
    | (go_at_call 29; refine (R4.out w7 A2 c2 A7 c7 w7.heap.size (hX7.more (by omega)) hd7 (Nat.le_refl _)).mono ?_; rintro e w8 ⟨A8, c8, rfl, hown8, hc8, hB8⟩
       have hs8 := hB8.size
       have hd48 := hd47.below' hB8 (by omega)
       have hd58 := hd57.below' hB8 (by omega)
       have hB8' := hB7'.trans (hB8.mono hz7)
       have hz8 := hB8'.size
       have hown8a := hown8.alloc (.cells #[.int .i64 p, .slice A8 M.length c8] 24)
       have kY := Blk.new w8 24 #[.int .i64 p, .slice A8 M.length c8]
       have hBY : Below w.heap.size w (w8.alloc (.cells #[.int .i64 p, .slice A8 M.length c8] 24)) := hB8'.alloc hz8 _
       have hA8 : Below w8.heap.size w8 (w8.alloc (.cells #[.int .i64 p, .slice A8 M.length c8] 24)) := (Below.refl _ _).alloc (Nat.le_refl _) _
       have hd4Y := hd48.below' hA8 (by omega)
       have hd5Y := hd58.below' hA8 (by omega)
       have hsY := hA8.size
       generalize hW8 : w8.alloc (.cells #[.int .i64 p, .slice A8 M.length c8] 24) = W8 at *
       have hzY := hBY.size
       have z0 := kY.cell 0 _ rfl
       have z1 := kY.cell 1 _ rfl
       have z2 := kY.lt
       have hd8 := hown8a.rdT
       clear hX7 kX7 y0 y1 y2 hd47 hd57 hd48 hd58)
    | (go_at_call 15; refine (B4.out W8 A8 c8 _ hd8 (Nat.le_refl _) hc8).mono ?_; rintro e w10 ⟨A10, c10, rfl, hd10, hB10⟩
       have hs10 := hB10.size
       have hd4Z := hd4Y.below' hB10 (by omega)
       have hd5Z := hd5Y.below' hB10 (by omega)
       have hB10' := hBY.trans (hB10.mono hzY)
       have hz10 := hB10'.size
       clear z0 z1 z2)
    | (go_at_call 27; have := tkI; refine (creaches_any A10 L3 c10 w10 w10.heap.size (by omega) hd10 (Nat.le_refl _)).mono ?_; rintro e w11 ⟨rfl, hB11⟩; rw [hn3.out]
       have hs11 := hB11.size
       have hd4a := hd4Z.below' hB11 (by omega)
       have hd5a := hd5Z.below' hB11 (by omega)
       have hB11' := hB10'.trans (hB11.mono hz10)
       have hz11 := hB11'.size
       clear tkI)
    | (go_at_call 27; have := tkJ; refine (creaches_any A4 L1 c4 w11 w4.heap.size (by omega) hd4a (by omega)).mono ?_; rintro e w12 ⟨rfl, hB12⟩; rw [hn1.out]
       have hs12 := hB12.size
       have hd5b := hd5a.below' hB12 (by omega)
       have hB12' := hB11'.trans (hB12.mono hz11)
       have hz12 := hB12'.size
       clear tkJ)
    | (go_at_call 27; refine (creaches_any A5 L2 c5 w12 w5.heap.size (by omega) hd5b (by omega)).mono ?_; rintro e w13 ⟨rfl, hB13⟩; rw [hn2.out]
       have hB13' := hB12'.trans (hB13.mono hz12)
       have hz13 := hB13'.size)
    | (go_at_call 11; refine (awake_any _).mono ?_; rintro e w9 ⟨rfl, hB9⟩))
  go_ret
  exact Ret.bool rfl (hB13'.trans (hB9.mono hz13))

theorem lawFewest_any (P S : Int) (A : Option Addr) (l : List Tri) (c : Nat) (w : World) (H : Nat) (hr : RdT w H A l) (hH : H ≤ w.heap.size)
    (hw : ∀ (k : Nat) (hk : k < l.length), l[k].s.size ≤ 9223372036854775807) (hl : l.length ≤ 9223372036854775807) :
    Calls Try.prog 8 #[.int .i64 P, .int .i64 S, .slice A l.length c] w (Ret (.bool true) w) := by
  by_cases h : l.length ≤ 1000
  · by_cases he : (sheetR P S l).2.2.2 = 0
    · by_cases hn : (sheetR P S l).2.1.length ≤ 120
      · by_cases h10 : (sheetR P S l).2.1.length ≤ 10
        · exact lawFewest_small P S A l c w H hr hH hw hl h he hn h10
        · exact lawFewest_mid P S A l c w H hr hH hw hl h he hn (by omega)
      · exact lawFewest_big P S A l c w H hr hH hw hl h he (by omega)
    · exact lawFewest_err P S A l c w H hr hH hw hl h he
  · exact lawFewest_far P S A l c w H hr hH hw hl (by omega)
end Go.Proofs.Ytogkgoabonbkkaa
