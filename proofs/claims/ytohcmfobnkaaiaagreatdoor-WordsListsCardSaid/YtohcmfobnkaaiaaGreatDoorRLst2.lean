/- torchonref01: List. -/
import Derived.Test.YtohcmfobnkaaiaaGreatDoorRLst
set_option linter.unusedSimpArgs false
set_option linter.unusedVariables false
namespace Go.Proofs.YtohcmfobnkaaiaaGreatDoor
open Go Go.RowKit Tor

theorem infoTxtR : (Tryz.prog.info? 9).map (fun i => (i.zero, i.size, i.bytes)) = some (some (.string ByteArray.empty), 1, 16) := by kernel_rfl
/-- the best texts, from the place k on -/
def bestA (l : List Int) (k : Nat) : Array Value := ((List.range (l.length + 1)).map fun q => Value.string (bN (if k ≤ q then lstT (l.drop q) else []))).toArray
theorem bestA_size (l : List Int) (k : Nat) : (bestA l k).size = l.length + 1 := by simp [bestA]
theorem bestA_get {l : List Int} {k q : Nat} (hq : q ≤ l.length) : (bestA l k)[q]? = some (.string (bN (if k ≤ q then lstT (l.drop q) else []))) := by
  unfold bestA
  rw [List.getElem?_toArray, List.getElem?_map, List.getElem?_range (by omega)]
  rfl
theorem bestA_first (l : List Int) : (List.replicate (l.length + 1) (Value.string (bN []))).toArray = bestA l l.length := by
  apply Array.ext'
  unfold bestA
  simp only
  refine List.ext_getElem (by simp) fun i h1 h2 => ?_
  rw [List.getElem_replicate, List.getElem_map, List.getElem_range]
  rw [List.length_replicate] at h1
  by_cases hi : l.length ≤ i
  · rw [if_pos hi, List.drop_of_length_le hi]; rfl
  · rw [if_neg hi]
theorem arr_ext {a b : Array Value} {n : Nat} (ha : a.size = n) (hb : b.size = n) (h : ∀ i, i < n → a[i]? = b[i]?) : a = b := by
  refine Array.ext_getElem? fun i => ?_
  by_cases hi : i < n
  · exact h i hi
  · rw [Array.getElem?_eq_none (by omega), Array.getElem?_eq_none (by omega)]
theorem bestA_set0 {l : List Int} {q : Nat} (hq : q < l.length) : (bestA l (q + 1)).setIfInBounds q (.string (bN [])) = bestA l (q + 1) := by
  refine arr_ext (n := l.length + 1) (by rw [Array.size_setIfInBounds, bestA_size]) (bestA_size _ _) fun i hi => ?_
  rw [Array.getElem?_setIfInBounds]
  split
  · rename_i he
    subst he
    rw [if_pos (by rw [bestA_size]; omega), bestA_get (by omega), if_neg (by omega)]
  · rfl
theorem bestA_step {l : List Int} {q : Nat} (hq : q < l.length) : (bestA l (q + 1)).setIfInBounds q (.string (bN (lstT (l.drop q)))) = bestA l q := by
  refine arr_ext (n := l.length + 1) (by rw [Array.size_setIfInBounds, bestA_size]) (bestA_size _ _) fun i hi => ?_
  rw [Array.getElem?_setIfInBounds]
  split
  · rename_i he
    subst he
    rw [if_pos (by rw [bestA_size]; omega), bestA_get (by omega), if_pos (Nat.le_refl _)]
  · rename_i he
    rw [bestA_get (by omega), bestA_get (by omega)]
    by_cases h : q + 1 ≤ i
    · rw [if_pos h, if_pos (by omega)]
    · rw [if_neg h, if_neg (by omega)]
theorem set_set (a : Array Value) (q : Nat) (u v : Value) : (a.setIfInBounds q u).setIfInBounds q v = a.setIfInBounds q v := by
  refine arr_ext (n := a.size) (by simp) (by simp) fun i hi => ?_
  rw [Array.getElem?_setIfInBounds, Array.getElem?_setIfInBounds, Array.getElem?_setIfInBounds, Array.size_setIfInBounds]
  split
  · rfl
  · rfl
theorem madeTxtR (n : Nat) : madeCells (Value.string ByteArray.empty).cells (n * 1) = (List.replicate n (Value.string (bN []))).toArray := by
  show madeCells #[Value.string ByteArray.empty] (n * 1) = _
  rw [Nat.mul_one]
  apply Array.ext'
  rw [toList_madeCells_one]
  rfl
theorem rdi_take {w : World} {B b o : Nat} {l : List Int} (h : RdI w B (some ⟨b, o, none⟩) l) (n : Nat) : RdI w B (some ⟨b, o, none⟩) (l.take n) := fun hne => by
  obtain ⟨b', o', e, hb, hc⟩ := h (fun e => hne (by rw [e]; simp))
  simp only [Option.some.injEq, Addr.mk.injEq, and_true] at e
  obtain ⟨rfl, rfl⟩ := e
  refine ⟨b, o, rfl, hb, fun k x hx j u hu => hc k x ?_ j u hu⟩
  rw [List.getElem?_take] at hx
  split at hx
  · exact hx
  · cases hx
theorem _root_.Tor.Rd.txsS {w : World} {B : Nat} {A : Option Addr} {l : List (List UInt8)} (h : Rd 1 tencS w B A l) {k : Nat} (hk : k < l.length) :
    ∃ b o, A = some ⟨b, o, none⟩ ∧ b < B ∧ w.cell? ⟨b, o + k, none⟩ = some (.string (bN l[k])) := by
  obtain ⟨b, o, e, hb, hc⟩ := h (by intro e; subst e; simp at hk)
  have hx : l[k]? = some l[k] := List.getElem?_eq_getElem hk
  refine ⟨b, o, e, hb, ?_⟩
  have := hc k _ hx 0 _ rfl
  simpa using this
theorem OkL.take {l : List Int} (h : OkL l) (k : Nat) : OkL (l.take k) := fun x hx => h x (List.mem_of_mem_take hx)
theorem texts_len {m : List Int} (h : OkL m) (h0 : m ≠ []) (hn : m.length ≤ 9999) {s : List UInt8} (hs : s ∈ textsP m) : s.length ≤ 9 := by
  have hl := List.length_pos_iff.2 h0
  have := (texts_mem (M := m) (q := m.length - 1) (by omega) s).1 (by rw [show m.length - 1 + 1 = m.length by omega, List.take_length]; exact hs)
  exact (items_ok h hl hn this).len
set_option maxRecDepth 100000 in
set_option maxHeartbeats 16000000 in
theorem rlist_any (A : Option Addr) (l : List Int) (c : Nat) (w : World) (hr : RdI w w.heap.size A l) (hln : l.length ≤ 1000000) (hcap : l.length ≤ c) (hc63 : c ≤ 9223372036854775807) :
    Calls Tryz.prog 6 #[.slice A l.length c] w (Ret (.tuple #[.string (bN (listP l).1), .int .i64 (listP l).2]) w) := by
  by_cases h5 : 500 < l.length
  · have hP : Hid (listP l = ([], 3)) := by rw [Hid]; unfold listP; rw [if_pos h5]
    rw [hP.out]
    have b1 : (500 : Int) < l.length := by omega
    clear hP h5
    go_enter Tryz.func6, Tryz.ntmps6
    go_wp2_with fail
    go_ret2
    exact ⟨rfl, Below.refl _ _⟩
  have b1 : ¬ (500 : Int) < l.length := by omega
  go_enter Tryz.func6, Tryz.ntmps6
  go_wp2_with fail
  go_loopw [4] (fun iv wr => ∃ j : Nat, j ≤ l.length ∧ iv = .int .i64 j ∧ Hid (OkL (l.take j)) ∧ w = wr) (fun i _ => l.length - (intOf i).toNat)
  case atStart => exact ⟨0, Nat.zero_le _, rfl, Lib.hid (fun x hx => by simp at hx), rfl⟩
  case round =>
    obtain ⟨j, hj, rfl, hin, rfl⟩ := hrel
    by_cases hlt : j < l.length
    · obtain ⟨b, o, rfl, hb, hc⟩ := Rd.int hr hlt
      have a2 : (j : Int) < (l.length : Int) := by omega
      have hmem : Hid (l[j] ∈ l) := Lib.hid (List.getElem_mem hlt)
      obtain ⟨v, hv⟩ : ∃ v, Hid (l[j] = v) := ⟨_, Lib.hid rfl⟩
      rw [hv.out] at hc hmem
      have hbad : ¬ (0 ≤ v ∧ v ≤ 9999) → Hid (listP l = ([], 7)) := fun hno => by
        rw [Hid]; unfold listP
        rw [if_neg h5, if_pos]
        rw [List.any_eq_true]
        refine ⟨v, hmem.out, ?_⟩
        simp only [Bool.or_eq_true, decide_eq_true_eq]
        omega
      by_cases h0 : v < 0
      · have hP := hbad (by omega)
        clear hbad
        go_wp2_with fail
        go_ret2
        rw [hP.out]
        exact ⟨rfl, Below.refl _ _⟩
      by_cases h9 : 9999 < v
      · have hP := hbad (by omega)
        clear hbad
        go_wp2_with fail
        go_ret2
        rw [hP.out]
        exact ⟨rfl, Below.refl _ _⟩
      clear hbad
      go_wp2_with fail
      go_roundw
      case rel =>
        refine ⟨j + 1, by omega, by go_num, Lib.hid (fun x hx => ?_), trivial⟩
        rw [List.take_add_one, List.getElem?_eq_getElem hlt] at hx
        simp only [Option.toList_some, List.mem_append, List.mem_singleton] at hx
        rcases hx with hx | hx
        · exact hin.out x hx
        · rw [hx, hv.out]; omega
      case measure => simp [intOf]; omega
    · obtain rfl : j = l.length := by omega
      have hok : OkL l := by have := hin.out; rw [List.take_length] at this; exact this
      have hP := Lib.hid (listP_ok hok (by omega))
      clear hin
      obtain ⟨i0, hi0, hz0', hz1', hz2'⟩ := info_parts infoTxtR
      have hmk : (Instr.makeSlice 56 (.int .i64 ((l.length : Int) + 1)) (.int .i64 ((l.length : Int) + 1))).run Tryz.prog w = .ok (.slice (some ⟨w.heap.size, 0, none⟩) (l.length + 1) (l.length + 1)) (w.alloc (.cells (bestA l l.length) 9)) := by
        have := run_makeSlice w 56 9 i0 _ Tryz.underlying56 hi0 hz0' .i64 .i64 ((l.length : Int) + 1) ((l.length : Int) + 1) (by omega) (by omega) (by rw [hz1']; omega) (by rw [hz2']; omega) (by omega)
        rw [this, hz1', show ((l.length : Int) + 1).toNat = l.length + 1 by omega, madeTxtR, bestA_first]
      have kB := Blk.new w 9 (bestA l l.length)
      have hB : Below w.heap.size w (w.alloc (.cells (bestA l l.length) 9)) := (Below.refl _ _).alloc (Nat.le_refl _) _
      go_wp2_with fail
      obtain ⟨w1, hw1⟩ : ∃ w1, w.alloc (.cells (bestA l l.length) 9) = w1 := ⟨_, rfl⟩
      rw [hw1] at kB hB ⊢
      clear hw1 hmk hi0 hz0' hz1' hz2'
      go_loopw [6] (fun iv wr => ∃ k : Nat, k ≤ l.length ∧ iv = .int .i64 ((k : Int) - 1) ∧ Blk wr w.heap.size 9 (bestA l k) ∧ Below w.heap.size w wr) (fun i _ => (intOf i + 1).toNat)
      case atStart => exact ⟨l.length, Nat.le_refl _, rfl, kB, hB⟩
      case round =>
        clear kB hB
        obtain ⟨k, hk, rfl, kB, hB⟩ := hrel
        obtain ⟨wo, rfl⟩ : ∃ wo : World, wo = wr := ⟨_, rfl⟩
        cases k with
        | zero =>
          have b2 : ¬ (0 : Int) ≤ ((0 : Nat) : Int) - 1 := by omega
          have q0 := kB.cell 0 _ (bestA_get (by omega))
          rw [if_pos (Nat.le_refl _), List.drop_zero] at q0
          have b3 : (0 : Int) < ((l.length + 1 : Nat) : Int) := by omega
          go_wp2_with fail
          go_ret2
          rw [hP.out]
          exact ⟨rfl, hB⟩
        | succ q =>
          have e1 : ((q + 1 : Nat) : Int) - 1 = (q : Int) := by omega
          rw [e1]
          have b2 : (0 : Int) ≤ (q : Int) := by omega
          have hq : q < l.length := by omega
          obtain ⟨b, o, rfl, hb, _⟩ := Rd.int hr hq
          have hMl : (l.drop q).length = l.length - q := List.length_drop
          have hM0 : l.drop q ≠ [] := fun e => by have := congrArg List.length e; rw [hMl] at this; simp at this; omega
          have hMok := hok.drop q
          have hall := runR_all hMok hM0 (by omega)
          have hstp := Lib.hid (bestA_step hq)
          rw [← hall, hMl] at hstp
          have hst0 := Lib.hid (bestA_set0 hq)
          rw [← hst0.out] at kB
          have HALL := Lib.hid hall
          clear hall e1
          go_wp2_with fail
          go_loopw [7] (fun tv wr => ∃ t : Nat, q ≤ t ∧ t ≤ l.length ∧ tv = .int .i64 t ∧ Blk wr w.heap.size 9 ((bestA l (q + 1)).setIfInBounds q (.string (bN (runR (l.drop q) (t - q))))) ∧ Below w.heap.size w wr) (fun t _ => l.length - (intOf t).toNat)
          case atStart => exact ⟨q, Nat.le_refl _, by omega, rfl, by rw [Nat.sub_self]; exact kB, hB⟩
          case round =>
            clear kB hB
            obtain ⟨t, hqt, htl, rfl, kB, hB⟩ := hrel
            obtain ⟨wt, rfl⟩ : ∃ wo : World, wo = wr := ⟨_, rfl⟩
            by_cases htl2 : t < l.length
            · have c1 : (t : Int) < (l.length : Int) := by omega
              have c2 : (q : Int) ≤ (t : Int) := by omega
              have c3 : (q : Int) ≤ (t : Int) + 1 := by omega
              have c4 : (t : Int) + 1 ≤ (c : Int) := by omega
              have hr2 := (hr.below hB).more hB.size
              obtain ⟨M, hMd⟩ : ∃ M, Hid (l.drop q = M) := ⟨_, Lib.hid rfl⟩
              have hrM := rdi_drop hr2 q
              rw [hMd.out] at hrM hMl hM0 hMok HALL hstp kB
              have hml : (M.take (t - q + 1)).length = t + 1 - q := by rw [List.length_take, hMl]; omega
              have hm0 : M.take (t - q + 1) ≠ [] := fun e => by rw [e] at hml; simp at hml; omega
              have HT := Lib.hid (rtexts_any b (o + q) (M.take (t - q + 1)) (c - q) wt (rdi_take hrM _) (hMok.take _) hm0 (by rw [hml]; omega))
              have hs9 : Hid (∀ s ∈ textsP (M.take (t - q + 1)), s.length ≤ 9) := Lib.hid (fun s hs => texts_len (hMok.take _) hm0 (by rw [hml]; omega) hs)
              rw [hml] at HT
              have hone := texts_one (M.take (t - q + 1))
              have hrun := runR_next M (t - q)
              have hgl := kB.lt
              clear hml hm0 hrM hr2
              cases hT : textsP (M.take (t - q + 1)) with
              | nil =>
                rw [hT] at HT
                have hstop := runR_stop hT (l.length - q) (by omega) (by omega)
                have HST := Lib.hid hstop
                clear hone hrun hT hs9 hstop hMl
                go_wp2_with fail
                refine HT.out.mono ?_
                rintro e9 w5 ⟨A5, c5, rfl, hr5, hB5, hf5⟩
                have kB5 := kB.below' hB5
                have hb5 := hB.trans (hB5.mono hB.size)
                rw [← HST.out, hstp.out] at kB5
                go_wp2_with fail
                go_loopw [9, 10] (fun kv _ wr => kv = .int .i64 0 ∧ w5 = wr) (fun _ _ _ => 0)
                case atStart => exact ⟨rfl, rfl⟩
                case round =>
                  obtain ⟨rfl, rfl⟩ := hrel
                  go_wp2_with fail
                  go_roundw
                  case rel => exact ⟨q, by omega, by go_num, kB5, hb5⟩
                  case measure => first | (simp [intOf]; done) | (simp [intOf]; omega)
              | cons s rs =>
                have hrs : rs = [] := by
                  rw [hT, List.length_cons] at hone
                  exact List.eq_nil_of_length_eq_zero (by omega)
                subst hrs
                rw [hT] at HT
                have hsl := hs9.out s (by rw [hT]; simp)
                have hcq : candQ M (t - q) = [candE M (t - q) s] := by unfold candQ; rw [hT]; rfl
                rw [hcq] at hrun
                have hrun2 : runR M (t - q + 1) = stepR (runR M (t - q)) (candE M (t - q) s) := hrun
                have hce : Hid (candE M (t - q) s = if t + 1 < l.length then s ++ 44 :: lstT (l.drop (t + 1)) else s) := by
                  rw [Hid]
                  unfold candE
                  rw [hMl, ← hMd.out, List.drop_drop]
                  have e1 : q + (t - q + 1) = t + 1 := by omega
                  rw [e1]
                  by_cases hh : t + 1 < l.length
                  · rw [if_pos hh, if_pos (by omega)]
                  · rw [if_neg hh, if_neg (by omega)]
                have hnx : t + 1 - q = t - q + 1 := by omega
                rw [← hnx] at hrun2
                have HRUN := Lib.hid hrun2
                obtain ⟨cur, hcur⟩ : ∃ x, Hid (runR M (t - q) = x) := ⟨_, Lib.hid rfl⟩
                rw [hcur.out] at HRUN kB
                obtain ⟨nxt, hnxt⟩ : ∃ x, Hid (runR M (t + 1 - q) = x) := ⟨_, Lib.hid rfl⟩
                rw [hnxt.out] at HRUN
                obtain ⟨cand, hcand⟩ : ∃ x, Hid (candE M (t - q) s = x) := ⟨_, Lib.hid rfl⟩
                rw [hcand.out] at HRUN hce
                have htail := Lib.hid (bestA_get (l := l) (k := q + 1) (q := t + 1) (by omega))
                have hlt5 := lst_len (hok.drop (t + 1)) (by rw [List.length_drop]; omega)
                rw [List.length_drop] at hlt5
                obtain ⟨lt, hlt⟩ : ∃ x, Hid (lstT (l.drop (t + 1)) = x) := ⟨_, Lib.hid rfl⟩
                rw [if_pos (by omega), hlt.out] at htail
                rw [hlt.out] at hce hlt5
                have hqsz : q < (bestA l (q + 1)).size := by rw [bestA_size]; omega
                have HBS := Lib.hid (bestA_size l (q + 1))
                clear hone hrun hT hs9 hcq hrun2 hnx hcur hcand hlt hMl
                go_wp2_with fail
                refine HT.out.mono ?_
                rintro e9 w5 ⟨A5, c5, rfl, hr5, hB5, hf5⟩
                have kB5 := kB.below' hB5
                have hb5 := hB.trans (hB5.mono hB.size)
                obtain ⟨b5, o5, rfl, hbl5, hc5⟩ := hr5.txsS (k := 0) (by simp)
                have hne5 : w.heap.size ≠ b5 := by have := hf5 _ rfl; simp only at this; omega
                simp only [List.getElem_cons_zero, Nat.add_zero] at hc5
                clear kB hB hf5 HT hr5
                go_wp2_with fail
                go_loopw [9, 10] (fun kv _ wr => ∃ kk : Nat, kk ≤ 1 ∧ kv = .int .i64 kk ∧ Blk wr w.heap.size 9 ((bestA l (q + 1)).setIfInBounds q (.string (bN (if kk = 0 then cur else nxt)))) ∧ Below w.heap.size w wr ∧ wr.cell? ⟨b5, o5, none⟩ = some (.string (bN s))) (fun kv _ _ => 1 - (intOf kv).toNat)
                case atStart => exact ⟨0, by omega, rfl, kB5, hb5, hc5⟩
                case round =>
                  clear kB5 hb5 hc5 hB5
                  obtain ⟨kk, hkk, rfl, kB, hB, hc5⟩ := hrel
                  obtain ⟨wk, rfl⟩ : ∃ wo : World, wo = wr := ⟨_, rfl⟩
                  by_cases hk0 : kk = 0
                  · subst hk0
                    rw [if_pos rfl] at kB
                    have k0 : ((0 : Nat) : Int) < ((1 : Nat) : Int) := by omega
                    have g1 : wk.cell? ⟨w.heap.size, t + 1, none⟩ = some (.string (bN lt)) := kB.cell (t + 1) _ (by rw [Array.getElem?_setIfInBounds, if_neg (by omega)]; exact htail.out)
                    have g2 : wk.cell? ⟨w.heap.size, q, none⟩ = some (.string (bN cur)) := kB.cell q _ (by rw [Array.getElem?_setIfInBounds, if_pos rfl, if_pos hqsz])
                    have f2 := kB.frozen q
                    have zs : (bN s).size = s.length := rfl
                    have zl : (bN lt).size = lt.length := rfl
                    have z44 : (⟨#[44]⟩ : ByteArray).size = 1 := rfl
                    by_cases hend : t + 1 < l.length
                    · have d1 : (t : Int) + 1 < (l.length : Int) := by omega
                      have hcand : cand = s ++ 44 :: lt := by rw [hce.out, if_pos hend]
                      have hcat : bN s ++ ⟨#[44]⟩ ++ bN lt = bN cand := by
                        rw [hcand, show (⟨#[44]⟩ : ByteArray) = bN [44] from rfl, bN_cat, bN_cat]; simp
                      have zz1 : (bN s).size + (⟨#[44]⟩ : ByteArray).size ≤ 9223372036854775807 := by rw [zs, z44]; omega
                      have zz2 : (bN s ++ ⟨#[44]⟩).size + (bN lt).size ≤ 9223372036854775807 := by rw [ByteArray.size_append, zs, z44, zl]; omega
                      have d2 : (t : Int) + 1 < ((l.length + 1 : Nat) : Int) := by omega
                      clear hcand hend
                      have zc : (bN cand).size = cand.length := rfl
                      have zr : (bN cur).size = cur.length := rfl
                      have tc : (bN cand).toList = cand := Lib.toList_data _
                      have tr : (bN cur).toList = cur := Lib.toList_data _
                      by_cases hA : cur = []
                      · have HN : Hid (nxt = cand) := by rw [Hid, HRUN.out]; unfold stepR; rw [if_pos (.inl hA)]
                        have r1 : (cur == []) = true := by rw [hA]; rfl
                        have r2 : cur.isEmpty = true := by rw [hA]; rfl
                        clear hA HRUN hce
                        go_wp2_with fail
                        go_roundw
                        case rel => exact ⟨1, by omega, by go_num, by rw [if_neg (by omega), HN.out, ← set_set (bestA l (q + 1)) q (.string (bN cur))]; exact kB.set_ q _, hB.setCell (p := ⟨w.heap.size, q, none⟩) (Nat.le_refl _) _, by rw [World.cell?_setCell_other _ _ _ _ (fun e => hne5 (by injection e))]; exact hc5⟩
                        case measure => first | (simp [intOf]; done) | (simp [intOf]; omega)
                      have r1 : (cur == []) = false := beq_eq_false_iff_ne.2 hA
                      have r2 : cur.isEmpty = false := by cases cur with | nil => exact absurd rfl hA | cons _ _ => rfl
                      by_cases hBl : cand.length < cur.length
                      · have HN : Hid (nxt = cand) := by rw [Hid, HRUN.out]; unfold stepR ltB; rw [if_pos (.inr (by rw [decide_eq_true hBl]; rfl))]
                        have r3 : (cand.length : Int) < (cur.length : Int) := by omega
                        clear hA HRUN hce hBl
                        go_wp2_with fail
                        go_roundw
                        case rel => exact ⟨1, by omega, by go_num, by rw [if_neg (by omega), HN.out, ← set_set (bestA l (q + 1)) q (.string (bN cur))]; exact kB.set_ q _, hB.setCell (p := ⟨w.heap.size, q, none⟩) (Nat.le_refl _) _, by rw [World.cell?_setCell_other _ _ _ _ (fun e => hne5 (by injection e))]; exact hc5⟩
                        case measure => first | (simp [intOf]; done) | (simp [intOf]; omega)
                      have r3 : ¬ (cand.length : Int) < (cur.length : Int) := by omega
                      by_cases hCl : cand.length = cur.length
                      · have r4 : ((cand.length : Int) == (cur.length : Int)) = true := by rw [beq_iff_eq]; omega
                        have R4 := Lib.hid r4
                        cases hbl : Op.bytesLess cand cur
                        · have HN : Hid (nxt = cur) := by rw [Hid, HRUN.out]; unfold stepR ltB; rw [if_neg]; rintro (h | h); exact hA h; rw [decide_eq_false hBl, hbl] at h; simp at h
                          clear hA HRUN hce hBl hCl
                          go_wp2_with fail
                          go_roundw
                          case rel => exact ⟨1, by omega, by go_num, by rw [if_neg (by omega), HN.out]; exact kB, hB, hc5⟩
                          case measure => first | (simp [intOf]; done) | (simp [intOf]; omega)
                        · have HN : Hid (nxt = cand) := by rw [Hid, HRUN.out]; unfold stepR ltB; rw [if_pos (.inr (by rw [decide_eq_true hCl, hbl]; simp))]
                          clear hA HRUN hce hBl hCl
                          go_wp2_with fail
                          go_roundw
                          case rel => exact ⟨1, by omega, by go_num, by rw [if_neg (by omega), HN.out, ← set_set (bestA l (q + 1)) q (.string (bN cur))]; exact kB.set_ q _, hB.setCell (p := ⟨w.heap.size, q, none⟩) (Nat.le_refl _) _, by rw [World.cell?_setCell_other _ _ _ _ (fun e => hne5 (by injection e))]; exact hc5⟩
                          case measure => first | (simp [intOf]; done) | (simp [intOf]; omega)
                      · have r4 : ((cand.length : Int) == (cur.length : Int)) = false := by rw [beq_eq_false_iff_ne]; omega
                        have r5 : ¬ (cand.length : Int) = (cur.length : Int) := by omega
                        have HN : Hid (nxt = cur) := by rw [Hid, HRUN.out]; unfold stepR ltB; rw [if_neg]; rintro (h | h); exact hA h; rw [decide_eq_false hBl, decide_eq_false hCl] at h; simp at h
                        clear hA HRUN hce hBl hCl
                        go_wp2_with fail
                        go_roundw
                        case rel => exact ⟨1, by omega, by go_num, by rw [if_neg (by omega), HN.out]; exact kB, hB, hc5⟩
                        case measure => first | (simp [intOf]; done) | (simp [intOf]; omega)
                    · have d1 : ¬ (t : Int) + 1 < (l.length : Int) := by omega
                      have hcand : s = cand := by rw [hce.out, if_neg hend]
                      clear hend hce
                      subst hcand
                      have zc : (bN s).size = s.length := rfl
                      have zr : (bN cur).size = cur.length := rfl
                      have tc : (bN s).toList = s := Lib.toList_data _
                      have tr : (bN cur).toList = cur := Lib.toList_data _
                      by_cases hA : cur = []
                      · have HN : Hid (nxt = s) := by rw [Hid, HRUN.out]; unfold stepR; rw [if_pos (.inl hA)]
                        have r1 : (cur == []) = true := by rw [hA]; rfl
                        have r2 : cur.isEmpty = true := by rw [hA]; rfl
                        clear hA HRUN
                        go_wp2_with fail
                        go_roundw
                        case rel => exact ⟨1, by omega, by go_num, by rw [if_neg (by omega), HN.out, ← set_set (bestA l (q + 1)) q (.string (bN cur))]; exact kB.set_ q _, hB.setCell (p := ⟨w.heap.size, q, none⟩) (Nat.le_refl _) _, by rw [World.cell?_setCell_other _ _ _ _ (fun e => hne5 (by injection e))]; exact hc5⟩
                        case measure => first | (simp [intOf]; done) | (simp [intOf]; omega)
                      have r1 : (cur == []) = false := beq_eq_false_iff_ne.2 hA
                      have r2 : cur.isEmpty = false := by cases cur with | nil => exact absurd rfl hA | cons _ _ => rfl
                      by_cases hBl : s.length < cur.length
                      · have HN : Hid (nxt = s) := by rw [Hid, HRUN.out]; unfold stepR ltB; rw [if_pos (.inr (by rw [decide_eq_true hBl]; rfl))]
                        have r3 : (s.length : Int) < (cur.length : Int) := by omega
                        clear hA HRUN hBl
                        go_wp2_with fail
                        go_roundw
                        case rel => exact ⟨1, by omega, by go_num, by rw [if_neg (by omega), HN.out, ← set_set (bestA l (q + 1)) q (.string (bN cur))]; exact kB.set_ q _, hB.setCell (p := ⟨w.heap.size, q, none⟩) (Nat.le_refl _) _, by rw [World.cell?_setCell_other _ _ _ _ (fun e => hne5 (by injection e))]; exact hc5⟩
                        case measure => first | (simp [intOf]; done) | (simp [intOf]; omega)
                      have r3 : ¬ (s.length : Int) < (cur.length : Int) := by omega
                      by_cases hCl : s.length = cur.length
                      · have r4 : ((s.length : Int) == (cur.length : Int)) = true := by rw [beq_iff_eq]; omega
                        have R4 := Lib.hid r4
                        cases hbl : Op.bytesLess s cur
                        · have HN : Hid (nxt = cur) := by rw [Hid, HRUN.out]; unfold stepR ltB; rw [if_neg]; rintro (h | h); exact hA h; rw [decide_eq_false hBl, hbl] at h; simp at h
                          clear hA HRUN hBl hCl
                          go_wp2_with fail
                          go_roundw
                          case rel => exact ⟨1, by omega, by go_num, by rw [if_neg (by omega), HN.out]; exact kB, hB, hc5⟩
                          case measure => first | (simp [intOf]; done) | (simp [intOf]; omega)
                        · have HN : Hid (nxt = s) := by rw [Hid, HRUN.out]; unfold stepR ltB; rw [if_pos (.inr (by rw [decide_eq_true hCl, hbl]; simp))]
                          clear hA HRUN hBl hCl
                          go_wp2_with fail
                          go_roundw
                          case rel => exact ⟨1, by omega, by go_num, by rw [if_neg (by omega), HN.out, ← set_set (bestA l (q + 1)) q (.string (bN cur))]; exact kB.set_ q _, hB.setCell (p := ⟨w.heap.size, q, none⟩) (Nat.le_refl _) _, by rw [World.cell?_setCell_other _ _ _ _ (fun e => hne5 (by injection e))]; exact hc5⟩
                          case measure => first | (simp [intOf]; done) | (simp [intOf]; omega)
                      · have r4 : ((s.length : Int) == (cur.length : Int)) = false := by rw [beq_eq_false_iff_ne]; omega
                        have r5 : ¬ (s.length : Int) = (cur.length : Int) := by omega
                        have HN : Hid (nxt = cur) := by rw [Hid, HRUN.out]; unfold stepR ltB; rw [if_neg]; rintro (h | h); exact hA h; rw [decide_eq_false hBl, decide_eq_false hCl] at h; simp at h
                        clear hA HRUN hBl hCl
                        go_wp2_with fail
                        go_roundw
                        case rel => exact ⟨1, by omega, by go_num, by rw [if_neg (by omega), HN.out]; exact kB, hB, hc5⟩
                        case measure => first | (simp [intOf]; done) | (simp [intOf]; omega)
                  · obtain rfl : kk = 1 := by omega
                    rw [if_neg (by omega)] at kB
                    have k0 : ¬ ((1 : Nat) : Int) < ((1 : Nat) : Int) := by omega
                    rw [← hnxt.out, hMd.out.symm] at kB
                    go_wp2_with fail
                    go_roundw
                    case rel => exact ⟨t + 1, by omega, by omega, by go_num, kB, hB⟩
                    case measure => simp [intOf]; omega
            · obtain rfl : t = l.length := by omega
              have c1 : ¬ (l.length : Int) < (l.length : Int) := by omega
              rw [hstp.out] at kB
              go_wp2_with fail
              go_roundw
              case rel => exact ⟨q, by omega, by go_num, kB, hB⟩
              case measure => first | (simp [intOf]; done) | (simp [intOf]; omega)
end Go.Proofs.YtohcmfobnkaaiaaGreatDoor
