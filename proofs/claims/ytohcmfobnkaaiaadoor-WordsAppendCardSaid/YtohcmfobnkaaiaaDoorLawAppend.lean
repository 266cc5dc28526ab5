/- torchonlaw01: WordsAppend. -/
import Derived.Test.YtohcmfobnkaaiaaDoorLawLeast
set_option linter.unusedSimpArgs false
set_option linter.unusedVariables false
namespace Go.Proofs.YtohcmfobnkaaiaaDoor
open Go Go.RowKit Tor

/-- what is asked, and read -/
theorem two_kinds (s t : List UInt8) (hs : s ≠ []) (ht : t ≠ []) (hl : s.length + t.length < 2500) :
    (∃ l m, parseP s = (l, 0) ∧ parseP t = (m, 0) ∧ OkL l ∧ OkL m ∧ l.length ≤ 500 ∧ m.length ≤ 500 ∧ l ≠ [] ∧ m ≠ [] ∧ parseP (s ++ 44 :: t) = if l.length + m.length ≤ 500 then (l ++ m, 0) else ([], 3)) ∨
    (∃ a b n m k, parseP s = (a, n) ∧ parseP t = (b, m) ∧ parseP (s ++ 44 :: t) = ([], k) ∧ (k == 0) = false ∧ ((n != 0) || (m != 0)) = true ∧ a.length ≤ 500 ∧ b.length ≤ 500) := by
  rcases parse_kinds s with ⟨l, h1, ok1, n1, _, e1⟩ | ⟨n, h1, h1'⟩
  · rcases parse_kinds t with ⟨m, h2, ok2, n2, _, e2⟩ | ⟨m, h2, h2'⟩
    · exact .inl ⟨l, m, h1, h2, ok1, ok2, n1, n2, e1 hs, e2 ht, parse_two hs ht hl h1 h2⟩
    · rcases parse_kinds (s ++ 44 :: t) with ⟨k, h3, _⟩ | ⟨k, h3, h3'⟩
      · obtain ⟨_, b, hb⟩ := parse_two_ok hs ht hl h3
        rw [hb] at h2; cases h2; cases h2'
      · exact .inr ⟨l, [], 0, m, k, h1, h2, h3, h3', by simp [bne, h2'], n1, by simp⟩
  · rcases parse_kinds (s ++ 44 :: t) with ⟨k, h3, _⟩ | ⟨k, h3, h3'⟩
    · obtain ⟨⟨a, ha⟩, _⟩ := parse_two_ok hs ht hl h3
      rw [ha] at h1; cases h1; cases h1'
    · rcases parse_kinds t with ⟨m, h2, ok2, n2, _, e2⟩ | ⟨m, h2, h2'⟩
      · exact .inr ⟨[], m, n, 0, k, h1, h2, h3, h3', by simp [bne, h1'], by simp, n2⟩
      · exact .inr ⟨[], [], n, m, k, h1, h2, h3, h3', by simp [bne, h1'], by simp, by simp⟩
theorem flat_ienc : ∀ l : List Int, l.flatMap ienc = l.map (Value.int .i64)
  | [] => rfl
  | x :: r => by rw [List.flatMap_cons, flat_ienc r]; rfl
theorem ints_news {w : World} {B : Nat} {b o : Nat} {l : List Int} (hl : l ≠ []) (h : RdI w B (some ⟨b, o, none⟩) l) : ∀ (j : Nat) u, (l.flatMap ienc)[j]? = some u → w.cell? (Addr.add ⟨b, o, none⟩ j) = some u := by
  intro j u hu
  obtain ⟨b', o', e, _, hc⟩ := h hl
  injection e with e
  injection e with e1 e2 _
  subst e1; subst e2
  rw [flat_ienc, List.getElem?_map] at hu
  cases hj : l[j]? with
  | none => rw [hj] at hu; cases hu
  | some x =>
    rw [hj] at hu
    cases hu
    have := hc j x hj 0 _ rfl
    rw [Go.WideShapes.add_plain]
    simpa using this
/-- a list is appended to an owned row, under a guard -/
theorem wpList_append_nums {P : Program} {w : World} {ops : Array Oper} {rest : List Oper} {o : Oper} {a : Act} {Q : Exit → Act → World → Prop} (hw : Region.wanted o (yielded ops a.tmps) = true) (s x : Operand) (t : TypeId)
    (ho : o.op = .call { callee := .builtin .append, args := #[s, x], argTypes := #[t, t] })
    (base : Nat) (e : TypeId) (i : TypeInfo) (ht : P.underlying t = some (.slice e)) (hi : P.info? e = some i) (hz : i.zero = some (.int .i64 0)) (hsize : i.size = 1) (hby : i.bytes = 8)
    (v : Value) (l m : List Int) (hs : a.eval s = v) (hown : Tor.Own 1 ienc w base e v l) (A : Option Addr) (c B : Nat) (hx : a.eval x = .slice A m.length c) (hr : RdI w B A m) (hm : m ≠ [])
    (hlen : l.length ≤ 1000000) (hlen2 : m.length ≤ 1000000) (hbase : base ≤ w.heap.size)
    (h : ∀ v' w', Tor.Own 1 ienc w' base e v' (l ++ m) → w.grownBy w' v.ownBlock → wpList P ops Q rest (a.put o.dst v') w') : wpList P ops Q (o :: rest) a w := by
  obtain ⟨b, off, rfl, _, _⟩ := hr hm
  have hf : (m.flatMap ienc).length = m.length * 1 := by rw [flat_ienc, List.length_map, Nat.mul_one]
  refine wpList_step (fun K hK => ?_)
  rw [if_pos hw]
  refine wp_append_own w s x t ho base e i (.int .i64 0) 1 8 ht hi hz hsize hby rfl (by omega) v l.length (l.flatMap ienc) hs hown ⟨b, off, none⟩ m.length c (m.flatMap ienc) hx hf (ints_news hm hr) ?_ (by unfold maxLen; omega) (by omega) hbase
    (fun v' w' h2 h3 _ => hK _ _ (h v' w' ?_ h3))
  · intro u hu
    obtain ⟨y, _, hu⟩ := List.mem_flatMap.1 hu
    exact int_one y u hu
  · unfold Tor.Own
    rw [List.flatMap_append, List.length_append]
    exact h2
theorem own_empty (w : World) (T : TypeId) : Tor.Own 1 ienc (w.alloc (.cells #[] T)) w.heap.size T (.slice (some ⟨w.heap.size, 0, none⟩) 0 0) [] := by
  have := World.ownsRow_lit (base := w.heap.size) (e := T) (size := 1) w #[] 0 (Nat.le_refl _) (by unfold maxLen; omega) rfl
  unfold Tor.Own
  simpa using this
theorem own_far {w : World} {base : Nat} {T : TypeId} {v : Value} {l : List Int} (h : Tor.Own 1 ienc w base T v l) : ∀ k, v.ownBlock = some k → base ≤ k := by
  obtain ⟨_, h2⟩ := h
  intro k hk
  rcases h2 with ⟨rfl, _⟩ | ⟨g, cap, cur, rfl, hg, _⟩
  · simp [Value.ownBlock] at hk
  · simp [Value.ownBlock] at hk; omega
theorem bN_comma (s t : List UInt8) : bN s ++ ⟨#[44]⟩ ++ bN t = bN (s ++ 44 :: t) := by
  rw [show (⟨#[44]⟩ : ByteArray) = bN [44] from rfl, bN_cat, bN_cat]; simp
set_option maxRecDepth 100000 in
set_option maxHeartbeats 4000000 in
theorem lawAppend_any (s t : List UInt8) (w : World) (h : WdAt w) : Calls Tryd.prog 4 #[.string (bN s), .string (bN t)] w (Ret (.bool true) w) := by
  have hz : (bN s).size = s.length := rfl
  have hy : (bN t).size = t.length := rfl
  have hc : (⟨#[44]⟩ : ByteArray).size = 1 := rfl
  have HS := Lib.hid (fun (w' : World) (hw : WdAt w') => shown_any w' hw)
  by_cases k1 : s.length = 0
  · have a1 : ((s.length : Int) == 0) = true := by rw [beq_iff_eq]; omega
    clear k1
    go_enter Tryd.func4, Tryd.ntmps4
    go_wp2_with fail
    refine (HS.out _ h).mono ?_
    rintro e w1 ⟨rfl, hB1⟩
    go_wp2_with fail
    go_ret
    exact ⟨rfl, hB1⟩
  have a1 : ((s.length : Int) == 0) = false := by rw [beq_eq_false_iff_ne]; omega
  by_cases k2 : t.length = 0
  · have a2 : ((t.length : Int) == 0) = true := by rw [beq_iff_eq]; omega
    clear k1 k2
    go_enter Tryd.func4, Tryd.ntmps4
    go_wp2_with fail
    refine (HS.out _ h).mono ?_
    rintro e w1 ⟨rfl, hB1⟩
    go_wp2_with fail
    go_ret
    exact ⟨rfl, hB1⟩
  have a2 : ((t.length : Int) == 0) = false := by rw [beq_eq_false_iff_ne]; omega
  by_cases k3 : 3000 < s.length
  · have a3 : (3000 : Int) < (s.length : Int) := by omega
    clear k1 k2 k3
    go_enter Tryd.func4, Tryd.ntmps4
    go_wp2_with fail
    refine (HS.out _ h).mono ?_
    rintro e w1 ⟨rfl, hB1⟩
    go_wp2_with fail
    go_ret
    exact ⟨rfl, hB1⟩
  have a3 : ¬ (3000 : Int) < (s.length : Int) := by omega
  by_cases k4 : 3000 < t.length
  · have a4 : (3000 : Int) < (t.length : Int) := by omega
    clear k1 k2 k3 k4
    go_enter Tryd.func4, Tryd.ntmps4
    go_wp2_with fail
    refine (HS.out _ h).mono ?_
    rintro e w1 ⟨rfl, hB1⟩
    go_wp2_with fail
    go_ret
    exact ⟨rfl, hB1⟩
  have a4 : ¬ (3000 : Int) < (t.length : Int) := by omega
  by_cases k5 : 2500 ≤ s.length + t.length
  · have a5 : (2500 : Int) ≤ (s.length : Int) + (t.length : Int) := by omega
    clear k1 k2 k3 k4 k5
    go_enter Tryd.func4, Tryd.ntmps4
    go_wp2_with fail
    refine (HS.out _ h).mono ?_
    rintro e w1 ⟨rfl, hB1⟩
    go_wp2_with fail
    go_ret
    exact ⟨rfl, hB1⟩
  have a5 : ¬ (2500 : Int) ≤ (s.length : Int) + (t.length : Int) := by omega
  have hs0 : s ≠ [] := fun e => k1 (by rw [e]; rfl)
  have ht0 : t ≠ [] := fun e => k2 (by rw [e]; rfl)
  have H1 := Lib.hid (fun w' hw' => parse_any s w' (by omega) hw' (fun x hx => okIdx_any x (by have := split_mem hx; omega)))
  have H2 := Lib.hid (fun w' hw' => parse_any t w' (by omega) hw' (fun x hx => okIdx_any x (by have := split_mem hx; omega)))
  have hlen : (s ++ 44 :: t).length ≤ 2500 := by rw [List.length_append, List.length_cons]; omega
  have H3 := Lib.hid (fun w' hw' => parse_any (s ++ 44 :: t) w' (by omega) hw' (fun x hx => okIdx_any x (by have := split_mem hx; omega)))
  have z1 : (bN s).size + (⟨#[44]⟩ : ByteArray).size ≤ 9223372036854775807 := by rw [hz, hc]; omega
  have z2 : (bN s ++ ⟨#[44]⟩).size + (bN t).size ≤ 9223372036854775807 := by rw [ByteArray.size_append, hz, hc, hy]; omega
  rw [← bN_comma] at H3
  have hk := two_kinds s t hs0 ht0 (by omega)
  clear hlen hs0 ht0 k1 k2 k3 k4 k5
  rcases hk with ⟨l, m, e1, e2, ok1, ok2, n1, n2, l0, m0, e3⟩ | ⟨a, b, n, m, k, e1, e2, e3, hk0, hnm, la, lb⟩
  · rw [e1] at H1
    rw [e2] at H2
    rw [e3] at H3
    clear e1 e2 e3
    by_cases k6 : l.length + m.length ≤ 500
    · rw [if_pos k6] at H3
      have a6 : ¬ (500 : Int) < (l.length : Int) + (m.length : Int) := by omega
      have ok3 : OkL (l ++ m) := fun x hx => by
        rcases List.mem_append.1 hx with hx | hx
        · exact ok1 x hx
        · exact ok2 x hx
      have hlm : (l ++ m).length = l.length + m.length := List.length_append
      have L1 := Lib.hid (fun A c w' hr hc hw' => wlist_any A l c w' hr (by omega) hc hw')
      have L2 := Lib.hid (fun A c w' hr hc hw' => wlist_any A m c w' hr (by omega) hc hw')
      have L3 := Lib.hid (fun A c w' hr hc hw' => wlist_any A (l ++ m) c w' hr (by omega) hc hw')
      have htw := lst_two ok1 ok2 l0 m0 k6
      have t1 := lst_len ok1 (by omega)
      have t2 := lst_len ok2 (by omega)
      rw [listP_ok ok1 n1] at L1
      rw [listP_ok ok2 n2] at L2
      rw [listP_ok ok3 (by omega)] at L3
      obtain ⟨x, hx⟩ : ∃ x, Hid (lstT l = x) := ⟨_, Lib.hid rfl⟩
      obtain ⟨y, hyy⟩ : ∃ x, Hid (lstT m = x) := ⟨_, Lib.hid rfl⟩
      obtain ⟨v, hv⟩ : ∃ x, Hid (lstT (l ++ m) = x) := ⟨_, Lib.hid rfl⟩
      rw [hx.out] at L1 htw t1
      rw [hyy.out] at L2 htw t2
      rw [hv.out] at L3 htw
      have xz : (bN x).size = x.length := rfl
      have yz : (bN y).size = y.length := rfl
      have vz : (bN v).size = v.length := rfl
      have a7 : (v.length : Int) ≤ (x.length : Int) + 1 + (y.length : Int) := by omega
      obtain ⟨i0, hi0, hz0', hz1', hz2'⟩ := info_parts infoInt1
      have HLM := Lib.hid hlm
      clear hx hyy hv ok1 ok2 ok3 htw hlm
      go_enter Tryd.func4, Tryd.ntmps4
      go_wp2_with fail
      refine (H1.out _ h).mono ?_
      rintro e w1 ⟨v1, rfl, ho1, hB1⟩
      obtain ⟨A1, c1, rfl, hc1, hr1⟩ := Tor.Own.rd int_len ho1
      go_wp2_with fail
      refine (H2.out _ (h.below hB1)).mono ?_
      rintro e w2 ⟨v2, rfl, ho2, hB2⟩
      obtain ⟨A2, c2, rfl, hc2, hr2⟩ := Tor.Own.rd int_len ho2
      have q2 := hB1.trans (hB2.mono hB1.size)
      have hr12 := (hr1.below hB2).more hB2.size
      go_wp2_with fail
      refine (H3.out _ (h.below q2)).mono ?_
      rintro e w3 ⟨v3, rfl, ho3, hB3⟩
      obtain ⟨A3, c3, rfl, hc3, hr3⟩ := Tor.Own.rd int_len ho3
      have q3 := q2.trans (hB3.mono q2.size)
      have hr13 := (hr12.below hB3).more hB3.size
      have hr23 := (hr2.below hB3).more hB3.size
      rw [HLM.out]
      go_wp2_with fail
      refine (L1.out _ _ _ hr13 hc1 (h.below q3)).mono ?_
      rintro e w4 ⟨rfl, hB4⟩
      have q4 := q3.trans (hB4.mono q3.size)
      have hr14 := (hr13.below hB4).more hB4.size
      have hr24 := (hr23.below hB4).more hB4.size
      have hr34 := (hr3.below hB4).more hB4.size
      go_wp2_with fail
      refine (L2.out _ _ _ hr24 hc2 (h.below q4)).mono ?_
      rintro e w5 ⟨rfl, hB5⟩
      have q5 := q4.trans (hB5.mono q4.size)
      have hr15 := (hr14.below hB5).more hB5.size
      have hr25 := (hr24.below hB5).more hB5.size
      have hr35 := (hr34.below hB5).more hB5.size
      go_wp2_with fail
      rw [← HLM.out]
      refine (L3.out _ _ _ hr35 hc3 (h.below q5)).mono ?_
      rintro e w6 ⟨rfl, hB6⟩
      have q6 := q5.trans (hB6.mono q5.size)
      have hr16 := (hr15.below hB6).more hB6.size
      have hr26 := (hr25.below hB6).more hB6.size
      have hr36 := (hr35.below hB6).more hB6.size
      obtain ⟨b1, o1, rfl, hb1, _⟩ := hr16 l0
      obtain ⟨b2, o2, rfl, hb2, _⟩ := hr26 m0
      have hl0 := Lib.hid l0
      have hm0 := Lib.hid m0
      clear l0 m0
      go_wp2_with (first
        | (at_builtin
           refine wpList_append_nums (by rfl) (.tmp 125) (.tmp 126) _ rfl w6.heap.size _ i0 Tryd.underlying23 hi0 hz0' hz1' hz2' (.slice (some ⟨w6.heap.size, 0, none⟩) 0 0) [] l rfl (own_empty _ _) (some ⟨b1, o1, none⟩) c1 w6.heap.size rfl (hr16.below ((Below.refl _ _).alloc (Nat.le_refl _) _)) hl0.out (by simp) (by omega) (by simp) ?_
           intro v7 w7 ho7 hg7
           have hB7 : Below w6.heap.size w6 w7 := Below.grown (((Below.refl _ _).alloc (Nat.le_refl _) _)) hg7 (by simp) (fun k e => by cases e; exact Nat.le_refl _)
           rw [List.nil_append] at ho7)
        | (at_builtin
           refine wpList_append_nums (by rfl) (.tmp 127) (.tmp 128) _ rfl w6.heap.size _ i0 Tryd.underlying23 hi0 hz0' hz1' hz2' _ l m rfl ho7 (some ⟨b2, o2, none⟩) c2 w6.heap.size rfl (hr26.below hB7) hm0.out (by omega) (by omega) hB7.size ?_
           intro v8 w8 ho8 hg8
           have hB8 : Below w6.heap.size w6 w8 := hB7.grown hg8 hB7.size (own_far ho7))
        | fail)
      obtain ⟨A8, c8, e8, _, hr8⟩ := Tor.Own.rd int_len ho8
      subst e8
      clear hg7 hg8 ho7 ho8
      rw [← HLM.out]
      refine (lints_any A3 A8 (l ++ m) (l ++ m) c3 c8 w8 ((hr36.below hB8).more hB8.size) hr8 (by rw [HLM.out]; omega) (by rw [HLM.out]; omega)).mono ?_
      rw [decide_eq_true (rfl : l ++ m = l ++ m)]
      rintro e w9 ⟨rfl, hB9⟩
      have q8 := q6.trans (hB8.mono q6.size)
      have q9 := q8.trans (hB9.mono q8.size)
      go_wp2_with fail
      refine (HS.out _ (h.below q9)).mono ?_
      rintro e w10 ⟨rfl, hB10⟩
      go_wp2_with fail
      go_ret
      exact ⟨rfl, q9.trans (hB10.mono q9.size)⟩
    · rw [if_neg k6] at H3
      have a6 : (500 : Int) < (l.length : Int) + (m.length : Int) := by omega
      clear k6
      go_enter Tryd.func4, Tryd.ntmps4
      go_wp2_with fail
      refine (H1.out _ h).mono ?_
      rintro e w1 ⟨v1, rfl, ho1, hB1⟩
      obtain ⟨A1, c1, rfl, hc1, hr1⟩ := Tor.Own.rd int_len ho1
      go_wp2_with fail
      refine (H2.out _ (h.below hB1)).mono ?_
      rintro e w2 ⟨v2, rfl, ho2, hB2⟩
      obtain ⟨A2, c2, rfl, hc2, hr2⟩ := Tor.Own.rd int_len ho2
      have q2 := hB1.trans (hB2.mono hB1.size)
      go_wp2_with fail
      refine (H3.out _ (h.below q2)).mono ?_
      rintro e w3 ⟨v3, rfl, ho3, hB3⟩
      obtain ⟨A3, c3, rfl, hc3, hr3⟩ := Tor.Own.rd int_len ho3
      have q3 := q2.trans (hB3.mono q2.size)
      go_wp2_with fail
      refine (HS.out _ (h.below q3)).mono ?_
      rintro e w6 ⟨rfl, hB6⟩
      go_wp2_with fail
      go_ret
      exact ⟨rfl, q3.trans (hB6.mono q3.size)⟩
  · rw [e1] at H1
    rw [e2] at H2
    rw [e3] at H3
    clear e1 e2 e3
    have hkb : (k != 0) = true := by rw [bne, hk0]; rfl
    cases hn0 : (n != 0)
    · rw [hn0, Bool.false_or] at hnm
      go_enter Tryd.func4, Tryd.ntmps4
      go_wp2_with fail
      refine (H1.out _ h).mono ?_
      rintro e w1 ⟨v1, rfl, ho1, hB1⟩
      obtain ⟨A1, c1, rfl, hc1, hr1⟩ := Tor.Own.rd int_len ho1
      go_wp2_with fail
      refine (H2.out _ (h.below hB1)).mono ?_
      rintro e w2 ⟨v2, rfl, ho2, hB2⟩
      obtain ⟨A2, c2, rfl, hc2, hr2⟩ := Tor.Own.rd int_len ho2
      have q2 := hB1.trans (hB2.mono hB1.size)
      go_wp2_with fail
      refine (H3.out _ (h.below q2)).mono ?_
      rintro e w3 ⟨v3, rfl, ho3, hB3⟩
      obtain ⟨A3, c3, rfl, hc3, hr3⟩ := Tor.Own.rd int_len ho3
      have q3 := q2.trans (hB3.mono q2.size)
      go_wp2_with fail
      refine (HS.out _ (h.below q3)).mono ?_
      rintro e w6 ⟨rfl, hB6⟩
      go_wp2_with fail
      go_ret
      exact ⟨rfl, q3.trans (hB6.mono q3.size)⟩
    · clear hnm
      go_enter Tryd.func4, Tryd.ntmps4
      go_wp2_with fail
      refine (H1.out _ h).mono ?_
      rintro e w1 ⟨v1, rfl, ho1, hB1⟩
      obtain ⟨A1, c1, rfl, hc1, hr1⟩ := Tor.Own.rd int_len ho1
      go_wp2_with fail
      refine (H2.out _ (h.below hB1)).mono ?_
      rintro e w2 ⟨v2, rfl, ho2, hB2⟩
      obtain ⟨A2, c2, rfl, hc2, hr2⟩ := Tor.Own.rd int_len ho2
      have q2 := hB1.trans (hB2.mono hB1.size)
      go_wp2_with fail
      refine (H3.out _ (h.below q2)).mono ?_
      rintro e w3 ⟨v3, rfl, ho3, hB3⟩
      obtain ⟨A3, c3, rfl, hc3, hr3⟩ := Tor.Own.rd int_len ho3
      have q3 := q2.trans (hB3.mono q2.size)
      go_wp2_with fail
      refine (HS.out _ (h.below q3)).mono ?_
      rintro e w6 ⟨rfl, hB6⟩
      go_wp2_with fail
      go_ret
      exact ⟨rfl, q3.trans (hB6.mono q3.size)⟩
end Go.Proofs.YtohcmfobnkaaiaaDoor
