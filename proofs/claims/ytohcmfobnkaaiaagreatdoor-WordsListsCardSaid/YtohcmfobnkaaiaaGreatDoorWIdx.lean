/- words: where the next piece of a line ends: the function value of pieces, strings.IndexFunc. -/
import Derived.Test.YtohcmfobnkaaiaaGreatDoorSplM
import Derived.Test.YtohcmfobnkaaiaaGreatDoorWField
import Derived.RangeFuncBox
set_option linter.unusedSimpArgs false
set_option linter.unusedVariables false
namespace Go.Proofs.YtohcmfobnkaaiaaGreatDoor
open Go Go.RowKit Tor

theorem gb_step {w X Y : World} {row : Option Nat} {wb : Nat} (h : w.grownBy X (some wb)) (hg : X.grownBy Y row) (hr : ∀ r, row = some r → r = wb ∨ w.heap.size ≤ r) : w.grownBy Y (some wb) :=
  ⟨hg.os.trans h.os, hg.tape.trans h.tape, hg.output.trans h.output, Nat.le_trans h.size hg.size, fun k hk hne =>
    (hg.block k (by have := h.size; omega) (fun e => by
      rcases hr k e.symm with rfl | h2
      · exact hne rfl
      · omega)).trans (h.block k hk hne)⟩
theorem gb_refl (w : World) (wb : Nat) : w.grownBy w (some wb) := ⟨rfl, rfl, rfl, Nat.le_refl _, fun _ _ _ => rfl⟩
theorem gb_iter (w : World) (k : Nat) (s : ByteArray) (pos : Nat) : w.grownBy (w.iterAt k s pos) (some k) :=
  ⟨rfl, rfl, rfl, by rw [Lib.iterAt_size]; exact Nat.le_refl _, fun j _ hne => Lib.iterAt_other w k j s pos (fun e => hne (by rw [e]))⟩
theorem gb_set (w : World) (wb : Nat) (v : Value) : w.grownBy (w.setCell ⟨wb, 0, none⟩ v) (some wb) := grownBy_setCell' w wb v

def tgl (c : Nat) (q : Bool) : Bool := if c = 34 then !q else q
set_option maxRecDepth 100000 in
set_option maxHeartbeats 1000000 in
theorem ends_any (c : Nat) (q : Bool) (wb : Nat) (w : World) (hb : Blk w wb 4 #[.bool q]) :
    Calls Tryz.prog 43 #[.int .i32 c, .pointer (some ⟨wb, 0, none⟩)] w fun e w' => e = .returned (.bool (decide (c = 32) && !tgl c q)) ∧ w.grownBy w' (some wb) ∧ Blk w' wb 4 #[.bool (tgl c q)] := by
  have q0 := hb.cell 0 _ rfl
  have f0 := hb.frozen 0
  have l0 := hb.lt
  by_cases h34 : c = 34
  · subst h34
    have hT : Hid (tgl 34 q = !q) := Lib.hid rfl
    rw [hT.out, show (decide (34 = 32) && !!q) = false from rfl]
    have h1 := (hb.set_ 0 (.bool !q))
    go_enter Tryz.func43, Tryz.ntmps43
    go_wp2_with fail
    go_ret
    exact ⟨rfl, gb_set _ _ _, h1⟩
  · have hT : Hid (tgl c q = q) := by rw [Hid]; unfold tgl; rw [if_neg h34]
    rw [hT.out]
    have c1 : ¬ (c : Int) = 34 := by omega
    clear hT h34
    by_cases h32 : c = 32
    · subst h32
      clear c1
      go_enter Tryz.func43, Tryz.ntmps43
      go_wp2_with fail
      go_ret
      exact ⟨by simp, gb_refl _ _, hb⟩
    · rw [decide_eq_false h32]
      have c2 : ¬ (c : Int) = 32 := by omega
      clear h32
      go_enter Tryz.func43, Tryz.ntmps43
      go_wp2_with fail
      go_ret
      exact ⟨by simp, gb_refl _ _, hb⟩

set_option maxRecDepth 100000 in
set_option maxHeartbeats 2000000 in
theorem idxf_any (L : List UInt8) (q0 : Bool) (wb : Nat) (w : World) (hb : Blk w wb 4 #[.bool q0]) :
    Calls Tryz.prog 60 #[.string (bN L), .func (.func 43) #[] #[.pointer (some ⟨wb, 0, none⟩)], .bool true] w fun e w' => e = .returned (.int .i64 (endI q0 L)) ∧ w.grownBy w' (some wb) ∧ Blk w' wb 4 #[.bool (finP q0 L)] := by
  have hz : (bN L).size = L.length := rfl
  have tL : (bN L).data.toList = L := rfl
  have l0 := hb.lt
  obtain ⟨E, hE⟩ : ∃ E, Hid (endI q0 L = E) := ⟨_, Lib.hid rfl⟩
  obtain ⟨f, hf⟩ : ∃ f, Hid (finP q0 L = f) := ⟨_, Lib.hid rfl⟩
  rw [hE.out, hf.out]
  go_enter Tryz.func60, Tryz.ntmps60
  go_wp2
  go_loopg [] (L.length + 1) (fun gf wx => ∃ (pos : Nat) (q : Bool), wx.heap[w.heap.size]? = some (.stringIter (bN L) pos) ∧ w.grownBy wx (some wb) ∧ Blk wx wb 4 #[.bool q] ∧ Hid (AtP q0 L q pos) ∧ L.length + 1 ≤ pos + gf)
  case atStart => exact ⟨0, q0, World.iter_heap w (bN L) 0, gb_step (gb_refl w wb) (World.grownBy_alloc w _ none) (fun r e => by cases e), hb.alloc _, Lib.hid (AtP.start _ _), by omega⟩
  case round =>
    obtain ⟨pos, q, hit, hbw, hbl, hat, hfu⟩ := hrel
    by_cases hps : pos < (bN L).size
    · obtain ⟨g', rfl⟩ : ∃ g', gk = g' + 1 := ⟨gk - 1, by rw [hz] at hps; omega⟩
      have hnx : ∀ ty, (Instr.next (.pointer (some ⟨w.heap.size, 0, none⟩)) true ty).run Tryz.prog wr = _ := fun ty => Lib.run_next_any_at wr w.heap.size (bN L) pos ty hit hps
      have hps' : pos < L.length := hps
      have hbig := rune_big (bN L) pos (by rw [tL]; exact hps')
      have hwd := Lib.width_pos (bN L) pos
      obtain ⟨R, hR⟩ : ∃ R, (Utf8.decode (bN L) pos).1 = R := ⟨_, rfl⟩
      obtain ⟨K, hK⟩ : ∃ K, (Utf8.decode (bN L) pos).2 = K := ⟨_, rfl⟩
      have hRK : Utf8.decode (bN L) pos = (R, K) := by rw [← hR, ← hK]
      rw [hR, hK] at hnx
      rw [hRK] at hbig
      rw [hK] at hwd
      have hit2 := Lib.iterAt_heap wr w.heap.size (bN L) pos (pos + K) hit
      have hbw2 := gb_step hbw (gb_iter wr w.heap.size (bN L) (pos + K)) (fun r e => by cases e; exact .inr (Nat.le_refl _))
      have hbl2 : Blk (wr.iterAt w.heap.size (bN L) (pos + K)) wb 4 #[.bool q] := hbl.grown (gb_iter wr w.heap.size (bN L) (pos + K)) (fun e => by cases e; omega)
      obtain ⟨W, hWd⟩ : ∃ W, wr.iterAt w.heap.size (bN L) (pos + K) = W := ⟨_, rfl⟩
      rw [hWd] at hnx hit2 hbw2 hbl2
      have hltW : w.heap.size < W.heap.size := (Array.getElem?_eq_some_iff.1 hit2).1
      have cS := Lib.hid (ends_any R q wb W hbl2)
      -- what is known behind the rune
      have next : Hid ((decide (R = 32) && !tgl R q) = false → AtP q0 L (tgl R q) (pos + K)) := by
        refine Lib.hid (fun hno => ?_)
        rcases hbig with ⟨h8, he⟩ | ⟨h8, hall⟩
        · simp only [tL] at h8 he
          obtain ⟨rfl, rfl⟩ := Prod.mk.inj he
          have h1 := hat.out.one hps' (fun hh => by
            obtain ⟨h2, h3⟩ := hh
            rw [h2] at h3 hno
            simp [tgl] at hno
            simp at h3
            rw [h3] at hno; cases hno)
          have e34 : (L[pos] = 34) = (L[pos].toNat = 34) := propext ⟨fun h => by rw [h]; rfl, fun h => UInt8.toNat.inj h⟩
          unfold tgl
          simp only [e34] at h1
          exact h1
        · simp only [tL] at hall
          have hR34 : ¬ R = 34 := by omega
          unfold tgl
          rw [if_neg hR34]
          exact hat.out.skip hall
      have hits : Hid ((decide (R = 32) && !tgl R q) = true → endP q0 L = some pos ∧ finP q0 L = false ∧ tgl R q = false) := by
        refine Lib.hid (fun hyes => ?_)
        simp only [Bool.and_eq_true, decide_eq_true_eq, Bool.not_eq_true'] at hyes
        obtain ⟨rfl, h3⟩ := hyes
        rcases hbig with ⟨h8, he⟩ | ⟨h8, hall⟩
        · simp only [tL] at h8 he
          obtain ⟨he1, -⟩ := Prod.mk.inj he
          have h4 := hat.out.hit hps' (UInt8.toNat.inj he1.symm) (by simpa [tgl] using h3)
          exact ⟨h4.1, h4.2, h3⟩
        · omega
      clear hbig hat hRK hR hK
      obtain ⟨b, hb'⟩ : ∃ b, Hid ((decide (R = 32) && !tgl R q) = b) := ⟨_, Lib.hid rfl⟩
      obtain ⟨t, ht⟩ : ∃ t, Hid (tgl R q = t) := ⟨_, Lib.hid rfl⟩
      rw [hb'.out] at cS next hits
      rw [ht.out] at cS next hits
      clear hb' ht
      have hne : some w.heap.size ≠ some wb := fun e => by cases e; omega
      cases b
      · have hat2 := Lib.hid (next.out rfl)
        clear next hits
        go_wp2_with (first
          | (go_at_call 43
             refine cS.out.mono ?_
             rintro e W' ⟨rfl, hg, hbl3⟩)
          | fail)
        go_roundg g'
        case measure => omega
        case rel => exact ⟨pos + K, t, (hg.block _ hltW hne).trans hit2, gb_step hbw2 hg (fun r e => by cases e; exact .inl rfl), hbl3, hat2, by omega⟩
      · obtain ⟨hh1, hh2, rfl⟩ := hits.out rfl
        have hE2 : Hid (E = pos) := by rw [Hid, ← hE.out, endI_some hh1]
        have hf2 : Hid (f = false) := by rw [Hid, ← hf.out, hh2]
        clear next hits hh1 hh2 hE hf
        go_wp2_with (first
          | (go_at_call 43
             refine cS.out.mono ?_
             rintro e W' ⟨rfl, hg, hbl3⟩)
          | fail)
        go_ret
        rw [hE2.out, hf2.out]
        exact ⟨rfl, gb_step hbw2 hg (fun r e => by cases e; exact .inl rfl), hbl3⟩
    · have hnx : ∀ ty, (Instr.next (.pointer (some ⟨w.heap.size, 0, none⟩)) true ty).run Tryz.prog wr = _ := fun ty => Lib.run_next_end_at wr w.heap.size (bN L) pos ty hit hps
      have hd := hat.out.done (show L.length ≤ pos by rw [hz] at hps; omega)
      have hE2 : Hid (E = -1) := by rw [Hid, ← hE.out, endI_none hd.1]
      have hf2 : Hid (f = q) := by rw [Hid, ← hf.out, hd.2]
      clear hE hf hd hat
      go_wp2
      go_ret
      rw [hE2.out, hf2.out]
      exact ⟨rfl, hbw, hbl⟩
set_option maxRecDepth 100000 in
set_option maxHeartbeats 1000000 in
theorem indexFunc_any (L : List UInt8) (q0 : Bool) (wb : Nat) (w : World) (hb : Blk w wb 4 #[.bool q0]) :
    Calls Tryz.prog 45 #[.string (bN L), .func (.func 43) #[] #[.pointer (some ⟨wb, 0, none⟩)]] w fun e w' => e = .returned (.int .i64 (endI q0 L)) ∧ w.grownBy w' (some wb) ∧ Blk w' wb 4 #[.bool (finP q0 L)] := by
  have H := Lib.hid (idxf_any L q0 wb w hb)
  go_enter Tryz.func45, Tryz.ntmps45
  go_wp2_with (first
    | (go_at_call 60
       refine H.out.mono ?_
       rintro e w1 ⟨rfl, hg, hb1⟩)
    | fail)
  go_ret
  exact ⟨rfl, hg, hb1⟩
end Go.Proofs.YtohcmfobnkaaiaaGreatDoor
