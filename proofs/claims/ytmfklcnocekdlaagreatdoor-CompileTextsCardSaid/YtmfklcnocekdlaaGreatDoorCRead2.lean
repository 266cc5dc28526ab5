/- compile: the function read. -/
import Derived.Test.YtmfklcnocekdlaaGreatDoorCRead
import Derived.Test.YtmfklcnocekdlaaGreatDoorOldA3
set_option linter.unusedSimpArgs false
set_option linter.unusedVariables false
namespace Go.Proofs.YtmfklcnocekdlaaGreatDoor
open Go Go.RowKit Tor

theorem cps_ret2 {fn : Func} {p u : Tmp} (h : fn.results = #[.cell p 52, .tmp u]) {R : Ending → World → Prop} {a : Act} {w : World} {g : Nat} {x y z : Value} (hp : a.tmps.getD p undef = .pointer (some ⟨g, 0, none⟩))
    (hb : Blk w g 52 #[x, y, z]) (hd : a.defers = []) (hR : R (.returned (.tuple #[.agg #[x, y, z], a.tmps.getD u undef])) w) : bodyPost Tryz.prog fn R .ret a w := by
  refine bodyPost_ret (v := .tuple #[.agg #[x, y, z], a.tmps.getD u undef]) ?_ hd hR
  have c0 := hb.cell 0 x rfl
  have c1 := hb.cell 1 y rfl
  have c2 := hb.cell 2 z rfl
  have hp' : a.tmps[p]?.getD undef = .pointer (some ⟨g, 0, none⟩) := by simpa using hp
  simp only [results, h]
  simp [Sem.run_bind, Result.andThen, hp']
  go_simp
def CRead (w : World) (L : List UInt8) (e : Ending) (w' : World) : Prop :=
  ∃ x : Tri, e = .returned (.tuple #[.agg #[.int .i64 x.a, .int .i64 x.b, .string x.s], .bool (readC L).isSome]) ∧ (∀ y, readC L = some y → x = y) ∧ Below w.heap.size w w'
/-- what is left to be tried -/
def rkC (L : List UInt8) (k : Nat) : Option Tri :=
  if k = 0 then readC L else if k = 1 then (if (preB 2).isPrefixOf L then rdK 2 (L.drop 7) else if (preB 3).isPrefixOf L then rdK 3 (L.drop 4) else none)
  else if k = 2 then (if (preB 3).isPrefixOf L then rdK 3 (L.drop 4) else none) else none
theorem rkC_step (L : List UInt8) {k : Nat} (hk : k < 3) : rkC L k = if (preB ((k : Int) + 1)).isPrefixOf L then rdK ((k : Int) + 1) (L.drop (preB ((k : Int) + 1)).length) else rkC L (k + 1) := by
  rcases (show k = 0 ∨ k = 1 ∨ k = 2 by omega) with rfl | rfl | rfl <;> rfl
theorem idx_blank : ∀ t : List UInt8, Lib.indexByte t 32 = if blankK t < t.length then ((blankK t : Nat) : Int) else -1
  | [] => rfl
  | c :: r => by
    rw [Lib.indexByte, blankK, List.length_cons]
    by_cases hc : c = 32
    · have e : (c == 32) = true := by rw [hc]; rfl
      simp only [e, if_true, hc]
      simp
    · have e : (c == 32) = false := beq_eq_false_iff_ne.2 hc
      rw [idx_blank r]
      simp only [e, Bool.false_eq_true, if_false, if_neg hc]
      by_cases h : blankK r < r.length
      · have hh : 1 + blankK r < r.length + 1 := by omega
        rw [if_pos h, if_pos hh]
        have : (((blankK r : Nat) : Int) == -1) = false := by rw [beq_eq_false_iff_ne]; omega
        simp only [this, Bool.false_eq_true, if_false]
        omega
      · have hh : ¬ 1 + blankK r < r.length + 1 := by omega
        rw [if_neg h, if_neg hh]; rfl
theorem bN_takeC (L : List UInt8) (k : Nat) : (bN L).extract 0 k = bN (L.take k) := ByteArray.ext (Array.ext' (by rw [ByteArray.data_extract]; simp [bN]))
theorem bN_dropC (L : List UInt8) (k : Nat) : (bN L).extract k L.length = bN (L.drop k) := ByteArray.ext (Array.ext' (by rw [ByteArray.data_extract]; simp [bN]; exact List.take_of_length_le (by simp)))
theorem bN_catC (a b : List UInt8) : bN a ++ bN b = bN (a ++ b) := ByteArray.ext (Array.ext' (by rw [ByteArray.data_append, Array.toList_append]; rfl))
theorem kind_cell {w : World} {g : Nat} (hk : Blk w g 64 kindCells) {k : Nat} (h : k < 3) :
    w.cell? ⟨g, k * 4, none⟩ = some (.string (bN (nameB ((k : Int) + 1)))) ∧ w.cell? ⟨g, k * 4 + 1, none⟩ = some (.int .i64 ((k : Int) + 1)) ∧
    w.cell? ⟨g, k * 4 + 2, none⟩ = some (.func (.func (if k = 1 then 73 else 71)) #[] #[]) ∧ w.cell? ⟨g, k * 4 + 3, none⟩ = some (.func (.func (if k = 1 then 74 else 72)) #[] #[]) := by
  rcases (show k = 0 ∨ k = 1 ∨ k = 2 by omega) with rfl | rfl | rfl
  · exact ⟨hk.cell 0 _ rfl, hk.cell 1 _ rfl, hk.cell 2 _ rfl, hk.cell 3 _ rfl⟩
  · exact ⟨hk.cell 4 _ rfl, hk.cell 5 _ rfl, hk.cell 6 _ rfl, hk.cell 7 _ rfl⟩
  · exact ⟨hk.cell 8 _ rfl, hk.cell 9 _ rfl, hk.cell 10 _ rfl, hk.cell 11 _ rfl⟩
theorem Blk.drewC {w : World} {g : Nat} {t : TypeId} {cs : Array Value} (h : Blk w g t cs) : Blk w.drew g t cs := h
theorem Blk.drewNC {w : World} {g : Nat} {t : TypeId} {cs : Array Value} (h : Blk w g t cs) (n : Nat) : Blk (w.drewN n) g t cs := h
theorem callC_enter {f : FuncId} {fn : Func} {c : Code} (hf : Tryz.prog.funcs[f]? = some fn) (hname : (fn.name == "runtime.NumGoroutine") = false) (hb : fn.body = some c) (args : Array Value) (w : World) :
    (callFunc f args).run Tryz.prog w = .ok (.enter f args) w := by
  have h1 : fn.name ≠ "runtime.NumGoroutine" := by simpa using hname
  simp [callFunc, hf, h1, hb]
theorem fr_enter (k : Nat) (args : Array Value) (w : World) : (callFunc (if k = 1 then 74 else 72) args).run Tryz.prog w = .ok (.enter (if k = 1 then 74 else 72) args) w := by
  split
  · exact callC_enter Tryz.func74 (by kernel_rfl) rfl args w
  · exact callC_enter Tryz.func72 (by kernel_rfl) rfl args w
/-- what is behind the number is read -/
def WAny (w : World) (b : Nat) (op n : Int) (tl : List UInt8) (e : Ending) (w' : World) : Prop :=
  ∃ s : ByteArray, e = .returned (.bool (tailW op tl).isSome) ∧ Blk w' b 52 #[.int .i64 op, .int .i64 n, .string s] ∧ (∀ v, tailW op tl = some v → s = bN v) ∧ w.grownBy w' (some b)
theorem wany_any (k FR : Nat) (op n : Int) (tl : List UInt8) (b : Nat) (w : World) (hop : (k : Int) + 1 = op) (hFR : (if k = 1 then 74 else 72) = FR) (hl : tl.length ≤ 1000000)
    (kX : Blk w b 52 #[.int .i64 op, .int .i64 n, .string ⟨#[]⟩]) : Calls Tryz.prog FR #[.string (bN tl), .pointer (some ⟨b, 0, none⟩)] w (WAny w b op n tl) := by
  by_cases hk : k = 1
  · subst hk
    obtain rfl : op = 2 := by omega
    rw [if_pos rfl] at hFR; subst hFR
    exact wread_any tl n b w hl kX
  · rw [if_neg hk] at hFR; subst hFR
    have h2 : ¬ op = 2 := by omega
    have ht : tailW op tl = if tl = [] then some [] else none := by unfold tailW; rw [if_neg h2]
    refine (none_any tl _ w).mono ?_
    rintro e w' ⟨rfl, hB⟩
    refine ⟨⟨#[]⟩, ?_, kX.below' hB, fun v hv => ?_, grown_below b hB⟩
    · rw [ht]
      by_cases h : tl = []
      · rw [if_pos h, decide_eq_true h]; rfl
      · rw [if_neg h, decide_eq_false h]; rfl
    · rw [ht] at hv
      split at hv
      · cases hv; rfl
      · cases hv
set_option maxRecDepth 100000 in
set_option maxHeartbeats 8000000 in
theorem cread_any (g : Nat) (L : List UInt8) (w : World) (h : CpAt w) (hk : Blk w g 64 kindCells) (hl : L.length ≤ 1000000) :
    Calls Tryz.prog 40 #[.slice (some ⟨g, 0, none⟩) 3 3, .string (bN L)] w (CRead w L) := by
  have hz : (bN L).size = L.length := rfl
  have kR := Blk.new w 52 #[.int .i64 0, .int .i64 0, .string ByteArray.empty]
  have hBB : Below w.heap.size w (w.alloc (.cells #[.int .i64 0, .int .i64 0, .string ByteArray.empty] 52)) := (Below.refl _ _).alloc (Nat.le_refl _) _
  have hgw := hk.lt
  go_enter Tryz.func40, Tryz.ntmps40
  go_wp2_with fail
  go_loopw [17] (fun iv wr => ∃ k : Nat, k ≤ 3 ∧ iv = .int .i64 k ∧ Hid (readC L = rkC L k) ∧ Below w.heap.size w wr ∧ Blk wr w.heap.size 52 #[.int .i64 0, .int .i64 0, .string ByteArray.empty]) (fun i _ => 3 - (intOf i).toNat)
  case atStart => exact ⟨0, by omega, rfl, Lib.hid rfl, hBB, kR⟩
  case round =>
    clear hBB kR
    obtain ⟨k, hk3, rfl, hrk, hB, kR⟩ := hrel
    obtain ⟨wo, rfl⟩ : ∃ wo : World, wo = wr := ⟨_, rfl⟩
    by_cases hlt : k < 3
    · have a1 : (k : Int) < ((3 : Nat) : Int) := by omega
      have a1' : (k : Int) < 3 := by omega
      have hkg : Blk wo g 64 kindCells := (hB.block g hgw).trans hk
      obtain ⟨c0, c1, c2, c3⟩ := kind_cell hkg hlt
      obtain ⟨F2, hF2⟩ : ∃ F2 : Nat, Hid ((if k = 1 then 73 else 71) = F2) := ⟨_, Lib.hid rfl⟩
      obtain ⟨FR, hFR⟩ : ∃ FR : Nat, Hid ((if k = 1 then 74 else 72) = FR) := ⟨_, Lib.hid rfl⟩
      rw [hF2.out] at c2
      rw [hFR.out] at c3
      have hst := rkC_step L hlt
      rw [← hrk.out] at hst
      have HST := Lib.hid hst
      clear hst
      obtain ⟨op, hop⟩ : ∃ op : Int, (k : Int) + 1 = op := ⟨_, rfl⟩
      have hop3 : op = 1 ∨ op = 2 ∨ op = 3 := by omega
      rw [hop] at c0 c1 HST
      obtain ⟨N, hN⟩ : ∃ N, Hid (nameB op = N) := ⟨_, Lib.hid rfl⟩
      have hNl : N.length ≤ 6 := by rw [← hN.out]; exact nameB_len op
      rw [hN.out] at c0
      have hpre : preB op = N ++ [32] := by unfold preB; rw [hN.out]
      have zN : (bN N).size = N.length := rfl
      have z32 : (⟨#[32]⟩ : ByteArray).size = 1 := rfl
      have zz : (bN N).size + (⟨#[32]⟩ : ByteArray).size ≤ 9223372036854775807 := by rw [zN, z32]; omega
      have HC : Hid (∀ w', Calls Tryz.prog 75 #[.string (bN L), .string (bN N ++ ⟨#[32]⟩)] w' fun e w'' => e = .returned (.tuple #[.string (bN (Lib.trimPrefix L (preB op))), .bool ((preB op).isPrefixOf L)]) ∧ w'' = w') := Lib.hid (fun w' => by
        have hc : bN N ++ ⟨#[32]⟩ = bN (preB op) := by rw [hpre, show (⟨#[32]⟩ : ByteArray) = bN [32] from rfl, bN_catC]
        rw [hc]
        exact Tryz.strings_CutPrefix (bN L) (bN (preB op)) w')
      have hHC := HC.out
      obtain ⟨pb, hpb⟩ : ∃ b, Hid ((preB op).isPrefixOf L = b) := ⟨_, Lib.hid rfl⟩
      obtain ⟨rest, hrest⟩ : ∃ r, Hid (Lib.trimPrefix L (preB op) = r) := ⟨_, Lib.hid rfl⟩
      rw [hpb.out, hrest.out] at hHC
      have HC2 := Lib.hid hHC
      rw [hpb.out] at HST
      have hrl : pb = true → Hid (rest = L.drop (preB op).length) := fun hb => by
        rw [Hid, ← hrest.out]
        unfold Lib.trimPrefix Lib.hasPrefix
        rw [hpb.out, hb, if_pos rfl]
      have HRL := Lib.hid hrl
      clear hHC HC hpb hrest hpre hrl hN
      have HOP := Lib.hid hop
      have hBk := hB.alloc hB.size (.cells #[.string (bN N), .int .i64 op, .func (.func F2) #[] #[], .func (.func FR) #[] #[]] 64)
      have kRk := kR.alloc (.cells #[.string (bN N), .int .i64 op, .func (.func F2) #[] #[], .func (.func FR) #[] #[]] 64)
      have kKk := Blk.new wo 64 #[.string (bN N), .int .i64 op, .func (.func F2) #[] #[], .func (.func FR) #[] #[]]
      cases pb with
      | false =>
        have hnx : Hid (readC L = rkC L (k + 1)) := by rw [Hid, HST.out]; rfl
        clear HST
        go_wp2_with fail
        refine (HC2.out _).mono ?_
        rintro e w1 ⟨rfl, rfl⟩
        go_wp2_with fail
        go_roundw
        case rel => exact ⟨k + 1, by omega, by go_num, hnx, hBk, kRk⟩
        case measure => simp [intOf]; omega
      | true =>
        have hrest := HRL.out rfl
        have hmain : Hid (readC L = rdK op rest) := by rw [Hid, HST.out, if_pos rfl, ← hrest.out]
        have hrs : rest.length ≤ 1000000 := by rw [hrest.out, List.length_drop]; omega
        have HI : Hid (∀ w', Calls Tryz.prog 76 #[.string (bN rest), .int .u8 32] w' fun e w'' => e = .returned (.int .i64 (if blankK rest < rest.length then ((blankK rest : Nat) : Int) else -1)) ∧ w'' = w') := Lib.hid (fun w' => by
          have := Tryz.strings_IndexByte (bN rest) 32 w'
          rw [show ((32 : Int).toNat.toUInt8) = 32 from rfl, show (bN rest).data.toList = rest from rfl, idx_blank] at this
          exact this)
        have hHI := HI.out
        have hbl := blankK_le rest
        obtain ⟨E, hE⟩ : ∃ E, Hid (blankK rest = E) := ⟨_, Lib.hid rfl⟩
        obtain ⟨txt, htxt⟩ : ∃ x, Hid (rest.take E = x) := ⟨_, Lib.hid rfl⟩
        obtain ⟨tl, htl⟩ : ∃ x, Hid (rest.drop E = x) := ⟨_, Lib.hid rfl⟩
        have hrd : Hid (rdK op rest = match numW txt with
          | none => none
          | some n => match tailW op tl with
            | none => none
            | some w => some ⟨op, n, ⟨w.toArray⟩⟩) := by rw [Hid]; unfold rdK; rw [hE.out, htxt.out, htl.out]; rfl
        have htxl : txt.length ≤ 1000000 := by rw [← htxt.out, List.length_take]; omega
        have e1 : (bN rest).extract 0 E = bN txt := by rw [bN_takeC, htxt.out]
        have HW := Lib.hid (fun w' (hw : CpAt w') => wint_any (bN txt) 0 22 w' (by show txt.length ≤ _; exact htxl) hw.err)
        obtain ⟨n, en, hint⟩ : ∃ n en, Hid (intW txt 0 22 = (n, en)) := ⟨_, _, Lib.hid rfl⟩
        have hHW := HW.out
        rw [show (bN txt).data.toList = txt from rfl, hint.out] at hHW
        have HW2 := Lib.hid hHW
        have hcp := Lib.hid (h.below hBk)
        rw [hE.out] at hHI hbl
        clear hHW HW HI HST hrest HRL
        by_cases hJ : E < rest.length
        · rw [if_pos hJ] at hHI
          have HI2 := Lib.hid hHI
          have zr : (bN rest).size = rest.length := rfl
          have e2 : (bN rest).extract E rest.length = bN tl := by rw [bN_dropC, htl.out]
          have j1 : ¬ (E : Int) < 0 := by omega
          have j2 : (E : Int) ≤ (rest.length : Int) := by omega
          have hTl : Hid (tl.length ≤ 1000000) := by rw [Hid, ← htl.out, List.length_drop]; omega
          clear hHI hJ hE htxt htl
          go_wp2_with fail
          refine (HC2.out _).mono ?_
          rintro e w1 ⟨rfl, rfl⟩
          go_wp2_with fail
          refine (HI2.out _).mono ?_
          rintro e w2 ⟨rfl, rfl⟩
          go_wp2_with fail
          refine (HW2.out _ hcp.out).mono ?_
          rintro e w5 ⟨rfl, hBw⟩
          have hB5 := hBk.trans (hBw.mono hBk.size)
          have k5 := kRk.below' hBw
          have kK5 := kKk.below' hBw
          have hne1 : some wo.heap.size ≠ some w5.heap.size := fun e => absurd (Option.some.inj e) (by have := kK5.lt; omega)
          have hne2 : some w.heap.size ≠ some w5.heap.size := fun e => absurd (Option.some.inj e) (by have := k5.lt; omega)
          have p1 := kK5.cell 1 (.int .i64 op) rfl
          by_cases hen : en = 0
          · subst hen
            have hnum : Hid (numW txt = some n) := by rw [Hid]; unfold numW; rw [hint.out]; rfl
            have hB6 := hB5.alloc hB5.size (.cells #[.int .i64 op, .int .i64 n, .string ⟨#[]⟩] 52)
            have k6 := k5.alloc (.cells #[.int .i64 op, .int .i64 n, .string ⟨#[]⟩] 52)
            have kX := Blk.new w5 52 #[.int .i64 op, .int .i64 n, .string ⟨#[]⟩]
            have kK6 := kK5.alloc (.cells #[.int .i64 op, .int .i64 n, .string ⟨#[]⟩] 52)
            have hS1 : ((w5.alloc (.cells #[.int .i64 op, .int .i64 n, .string ⟨#[]⟩] 52)).drew).cell? ⟨wo.heap.size, 3, none⟩ = some (.func (.func FR) #[] #[]) := kK6.cell 3 _ rfl
            go_wp2_with fail
            refine wp_region_J (fun w' => w'.cell? ⟨wo.heap.size, 3, none⟩ = some (.func (.func FR) #[] #[])) (fun _ => True) (fun _ => false) (by kernel_rfl) ?_
            refine wpAnyJ_take1 0 rfl (by kernel_rfl) (by kernel_rfl) rfl (by kernel_rfl) (fun _ _ _ h => h) (by rfl) hS1 (fun w' hSw => (by go_simp; try (with_reducible rfl))) ?_
            try simp only [Act.put, List.getElem_toArray, List.getElem_cons_succ, List.getElem_cons_zero, List.setIfInBounds_toArray, List.set_cons_zero, List.set_cons_succ]
            refine wpAnyJ_take1 1 rfl (by kernel_rfl) (by kernel_rfl) rfl (by kernel_rfl) (fun _ _ _ h => h) (by rfl) hS1 (fun w' hSw => (by go_simp; try (with_reducible rfl))) ?_
            try simp only [Act.put, List.getElem_toArray, List.getElem_cons_succ, List.getElem_cons_zero, List.setIfInBounds_toArray, List.set_cons_zero, List.set_cons_succ]
            refine wpAnyJ_take1 2 rfl (by kernel_rfl) (by kernel_rfl) rfl (by kernel_rfl) (fun _ _ _ h => h) (by rfl) hS1 (fun w' hSw => (by go_simp; try (with_reducible rfl))) ?_
            try simp only [Act.put, List.getElem_toArray, List.getElem_cons_succ, List.getElem_cons_zero, List.setIfInBounds_toArray, List.set_cons_zero, List.set_cons_succ]
            refine wpAnyJ_take1 3 rfl (by kernel_rfl) (by kernel_rfl) rfl (by kernel_rfl) (fun _ _ _ h => h) (by rfl) hS1 (fun w' hSw => (by go_simp; try (with_reducible rfl))) ?_
            try simp only [Act.put, List.getElem_toArray, List.getElem_cons_succ, List.getElem_cons_zero, List.setIfInBounds_toArray, List.set_cons_zero, List.set_cons_succ]
            refine wpAnyJ_take1 4 rfl (by kernel_rfl) (by kernel_rfl) rfl (by kernel_rfl) (fun _ _ _ h => h) (by rfl) hS1 (fun w' hSw => (by go_simp; try (with_reducible rfl))) ?_
            try simp only [Act.put, List.getElem_toArray, List.getElem_cons_succ, List.getElem_cons_zero, List.setIfInBounds_toArray, List.set_cons_zero, List.set_cons_succ]
            refine wpAnyJ_take1 5 rfl (by kernel_rfl) (by kernel_rfl) rfl (by kernel_rfl) (fun _ _ _ h => h) (by rfl) hS1 (fun w' hSw => (by go_simp; try (with_reducible rfl))) ?_
            try simp only [Act.put, List.getElem_toArray, List.getElem_cons_succ, List.getElem_cons_zero, List.setIfInBounds_toArray, List.set_cons_zero, List.set_cons_succ]
            refine wpAnyJ_take1 6 rfl (by kernel_rfl) (by kernel_rfl) rfl (by kernel_rfl) (fun _ _ _ h => h) (by rfl) hS1 (fun w' hSw => (by go_simp; try (with_reducible rfl))) ?_
            try simp only [Act.put, List.getElem_toArray, List.getElem_cons_succ, List.getElem_cons_zero, List.setIfInBounds_toArray, List.set_cons_zero, List.set_cons_succ]
            refine wpAnyJ_take1 7 rfl (by kernel_rfl) (by kernel_rfl) rfl (by kernel_rfl) (fun _ _ _ h => h) (by rfl) hS1 (fun w' hSw => (by go_simp; try (with_reducible rfl))) ?_
            try simp only [Act.put, List.getElem_toArray, List.getElem_cons_succ, List.getElem_cons_zero, List.setIfInBounds_toArray, List.set_cons_zero, List.set_cons_succ]
            refine wpAnyJ_ready [8] (by kernel_rfl) (by simp) (NextJ.cons rfl (fun K hK => ?_) NextJ.nil)
            have hfin : Hid (readC L = match tailW op tl with
              | none => none
              | some w => some ⟨op, n, ⟨w.toArray⟩⟩) := by rw [Hid, hmain.out, hrd.out, hnum.out]
            have hwa := Lib.hid (wany_any k FR op n tl w5.heap.size ((w5.alloc (.cells #[.int .i64 op, .int .i64 n, .string ⟨#[]⟩] 52)).drew) hop hFR.out hTl.out kX)
            have hent := fr_enter k
            rw [hFR.out] at hent
            go_simp
            clear hent
            refine hwa.out.mono ?_
            rintro e w7 ⟨s, rfl, kX7, hs7, gr7⟩
            have kK7 : Blk w7 wo.heap.size 64 _ := kK6.drewC.grown gr7 hne1
            have k7 : Blk w7 w.heap.size 52 _ := k6.drewC.grown gr7 hne2
            have hB7 : Below w.heap.size w w7 := ⟨gr7.os.trans hB6.os, gr7.tape.trans hB6.tape, gr7.output.trans hB6.output, Nat.le_trans hB6.size gr7.size, fun j hj => (gr7.block j (by have := hB6.size; show j < (w5.alloc (.cells #[.int .i64 op, .int .i64 n, .string ⟨#[]⟩] 52)).heap.size; omega) (fun e => absurd (Option.some.inj e) (by have := hB5.size; omega))).trans (hB6.block j hj)⟩
            have hS7 : w7.cell? ⟨wo.heap.size, 3, none⟩ = some (.func (.func FR) #[] #[]) := kK7.cell 3 _ rfl
            refine hK.out _ _ hS7 (fun h => absurd h (by decide)) ?_
            clear hK K hS1
            try simp only [Act.put, List.getElem_toArray, List.getElem_cons_succ, List.getElem_cons_zero, List.setIfInBounds_toArray, List.set_cons_zero, List.set_cons_succ]
            refine wpAnyJ_ready [9] (by kernel_rfl) (by simp) (NextJ.cons rfl (fun K hK => ?_) NextJ.nil)
            go_simp
            refine hK.out _ _ hS7 (fun h => absurd h (by decide)) ?_
            clear hK K
            try simp only [Act.put, List.getElem_toArray, List.getElem_cons_succ, List.getElem_cons_zero, List.setIfInBounds_toArray, List.set_cons_zero, List.set_cons_succ]
            refine wpAnyJ_ready [10] (by kernel_rfl) (by simp) (NextJ.cons rfl (fun K hK => ?_) NextJ.nil)
            go_simp
            refine hK.out _ _ hS7 (fun h => absurd h (by decide)) ?_
            clear hK K
            try simp only [Act.put, List.getElem_toArray, List.getElem_cons_succ, List.getElem_cons_zero, List.setIfInBounds_toArray, List.set_cons_zero, List.set_cons_succ]
            refine wpAnyJ_done (by kernel_rfl) ?_ _
            have x0 := kX7.cell 0 _ rfl
            have x1 := kX7.cell 1 _ rfl
            have x2 := kX7.cell 2 _ rfl
            have f0 := k7.frozen 0
            have f1 := k7.frozen 1
            have f2 := k7.frozen 2
            have q0 := k7.cell 0 _ rfl
            have q1 := k7.cell 1 _ rfl
            have q2 := k7.cell 2 _ rfl
            have l0 := k7.lt
            go_wp2_with fail
            refine cps_ret2 rfl rfl (((k7.set_ 0 _).set_ 1 _).set_ 2 _) rfl ?_
            refine ⟨⟨op, n, s⟩, ?_, ?_, ?_⟩
            · have : (readC L).isSome = (tailW op tl).isSome := by rw [hfin.out]; cases tailW op tl <;> rfl
              rw [this]; rfl
            · intro y hy
              rw [hfin.out] at hy
              cases ht : tailW op tl with
              | none => rw [ht] at hy; cases hy
              | some v => rw [ht] at hy; rw [hs7 v ht]; exact Option.some.inj hy
            · exact ((hB7.setCell (p := ⟨w.heap.size, 0, none⟩) (Nat.le_refl _) _).setCell (p := ⟨w.heap.size, 1, none⟩) (Nat.le_refl _) _).setCell (p := ⟨w.heap.size, 2, none⟩) (Nat.le_refl _) _
          · have b0 : (en == 0) = false := beq_eq_false_iff_ne.2 hen
            have hno : Hid (readC L = none) := by
              rw [Hid, hmain.out, hrd.out]
              unfold numW
              rw [hint.out, if_neg hen]
            have hB6 := hB5.alloc hB5.size (.cells #[.int .i64 op, .int .i64 n, .string ⟨#[]⟩] 52)
            have k6 := k5.alloc (.cells #[.int .i64 op, .int .i64 n, .string ⟨#[]⟩] 52)
            have kX := Blk.new w5 52 #[.int .i64 op, .int .i64 n, .string ⟨#[]⟩]
            have x0 := kX.cell 0 _ rfl
            have x1 := kX.cell 1 _ rfl
            have x2 := kX.cell 2 _ rfl
            have f0 := k6.frozen 0
            have f1 := k6.frozen 1
            have f2 := k6.frozen 2
            have q0 := k6.cell 0 _ rfl
            have q1 := k6.cell 1 _ rfl
            have q2 := k6.cell 2 _ rfl
            have l0 := k6.lt
            go_wp2_with fail
            go_quiet (fail)
            go_wp2_with fail
            refine cps_ret2 rfl rfl ((((k6.drewNC _).set_ 0 _).set_ 1 _).set_ 2 _) rfl ?_
            refine ⟨⟨op, n, ⟨#[]⟩⟩, by rw [hno.out]; rfl, fun y hy => (by rw [hno.out] at hy; cases hy), ?_⟩
            exact (((hB6.drewN _).setCell (p := ⟨w.heap.size, 0, none⟩) (Nat.le_refl _) _).setCell (p := ⟨w.heap.size, 1, none⟩) (Nat.le_refl _) _).setCell (p := ⟨w.heap.size, 2, none⟩) (Nat.le_refl _) _
        · rw [if_neg hJ] at hHI
          have HI2 := Lib.hid hHI
          have hEl : E = rest.length := by omega
          have zr : (bN rest).size = E := by rw [hEl]; rfl
          have e2 : (bN rest).extract E E = bN tl := by
            have := bN_dropC rest E
            rw [← hEl, htl.out] at this
            exact this
          obtain rfl : tl = [] := by rw [← htl.out, hEl, List.drop_length]
          have hTl : Hid (([] : List UInt8).length ≤ 1000000) := Lib.hid (by simp)
          clear hHI hJ hE htxt htl hEl
          go_wp2_with fail
          refine (HC2.out _).mono ?_
          rintro e w1 ⟨rfl, rfl⟩
          go_wp2_with fail
          refine (HI2.out _).mono ?_
          rintro e w2 ⟨rfl, rfl⟩
          go_wp2_with fail
          refine (HW2.out _ hcp.out).mono ?_
          rintro e w5 ⟨rfl, hBw⟩
          have hB5 := hBk.trans (hBw.mono hBk.size)
          have k5 := kRk.below' hBw
          have kK5 := kKk.below' hBw
          have hne1 : some wo.heap.size ≠ some w5.heap.size := fun e => absurd (Option.some.inj e) (by have := kK5.lt; omega)
          have hne2 : some w.heap.size ≠ some w5.heap.size := fun e => absurd (Option.some.inj e) (by have := k5.lt; omega)
          have p1 := kK5.cell 1 (.int .i64 op) rfl
          by_cases hen : en = 0
          · subst hen
            have hnum : Hid (numW txt = some n) := by rw [Hid]; unfold numW; rw [hint.out]; rfl
            have hB6 := hB5.alloc hB5.size (.cells #[.int .i64 op, .int .i64 n, .string ⟨#[]⟩] 52)
            have k6 := k5.alloc (.cells #[.int .i64 op, .int .i64 n, .string ⟨#[]⟩] 52)
            have kX := Blk.new w5 52 #[.int .i64 op, .int .i64 n, .string ⟨#[]⟩]
            have kK6 := kK5.alloc (.cells #[.int .i64 op, .int .i64 n, .string ⟨#[]⟩] 52)
            have hS1 : ((w5.alloc (.cells #[.int .i64 op, .int .i64 n, .string ⟨#[]⟩] 52)).drew).cell? ⟨wo.heap.size, 3, none⟩ = some (.func (.func FR) #[] #[]) := kK6.cell 3 _ rfl
            go_wp2_with fail
            refine wp_region_J (fun w' => w'.cell? ⟨wo.heap.size, 3, none⟩ = some (.func (.func FR) #[] #[])) (fun _ => True) (fun _ => false) (by kernel_rfl) ?_
            refine wpAnyJ_take1 0 rfl (by kernel_rfl) (by kernel_rfl) rfl (by kernel_rfl) (fun _ _ _ h => h) (by rfl) hS1 (fun w' hSw => (by go_simp; try (with_reducible rfl))) ?_
            try simp only [Act.put, List.getElem_toArray, List.getElem_cons_succ, List.getElem_cons_zero, List.setIfInBounds_toArray, List.set_cons_zero, List.set_cons_succ]
            refine wpAnyJ_take1 1 rfl (by kernel_rfl) (by kernel_rfl) rfl (by kernel_rfl) (fun _ _ _ h => h) (by rfl) hS1 (fun w' hSw => (by go_simp; try (with_reducible rfl))) ?_
            try simp only [Act.put, List.getElem_toArray, List.getElem_cons_succ, List.getElem_cons_zero, List.setIfInBounds_toArray, List.set_cons_zero, List.set_cons_succ]
            refine wpAnyJ_take1 2 rfl (by kernel_rfl) (by kernel_rfl) rfl (by kernel_rfl) (fun _ _ _ h => h) (by rfl) hS1 (fun w' hSw => (by go_simp; try (with_reducible rfl))) ?_
            try simp only [Act.put, List.getElem_toArray, List.getElem_cons_succ, List.getElem_cons_zero, List.setIfInBounds_toArray, List.set_cons_zero, List.set_cons_succ]
            refine wpAnyJ_take1 3 rfl (by kernel_rfl) (by kernel_rfl) rfl (by kernel_rfl) (fun _ _ _ h => h) (by rfl) hS1 (fun w' hSw => (by go_simp; try (with_reducible rfl))) ?_
            try simp only [Act.put, List.getElem_toArray, List.getElem_cons_succ, List.getElem_cons_zero, List.setIfInBounds_toArray, List.set_cons_zero, List.set_cons_succ]
            refine wpAnyJ_take1 4 rfl (by kernel_rfl) (by kernel_rfl) rfl (by kernel_rfl) (fun _ _ _ h => h) (by rfl) hS1 (fun w' hSw => (by go_simp; try (with_reducible rfl))) ?_
            try simp only [Act.put, List.getElem_toArray, List.getElem_cons_succ, List.getElem_cons_zero, List.setIfInBounds_toArray, List.set_cons_zero, List.set_cons_succ]
            refine wpAnyJ_take1 5 rfl (by kernel_rfl) (by kernel_rfl) rfl (by kernel_rfl) (fun _ _ _ h => h) (by rfl) hS1 (fun w' hSw => (by go_simp; try (with_reducible rfl))) ?_
            try simp only [Act.put, List.getElem_toArray, List.getElem_cons_succ, List.getElem_cons_zero, List.setIfInBounds_toArray, List.set_cons_zero, List.set_cons_succ]
            refine wpAnyJ_take1 6 rfl (by kernel_rfl) (by kernel_rfl) rfl (by kernel_rfl) (fun _ _ _ h => h) (by rfl) hS1 (fun w' hSw => (by go_simp; try (with_reducible rfl))) ?_
            try simp only [Act.put, List.getElem_toArray, List.getElem_cons_succ, List.getElem_cons_zero, List.setIfInBounds_toArray, List.set_cons_zero, List.set_cons_succ]
            refine wpAnyJ_take1 7 rfl (by kernel_rfl) (by kernel_rfl) rfl (by kernel_rfl) (fun _ _ _ h => h) (by rfl) hS1 (fun w' hSw => (by go_simp; try (with_reducible rfl))) ?_
            try simp only [Act.put, List.getElem_toArray, List.getElem_cons_succ, List.getElem_cons_zero, List.setIfInBounds_toArray, List.set_cons_zero, List.set_cons_succ]
            refine wpAnyJ_ready [8] (by kernel_rfl) (by simp) (NextJ.cons rfl (fun K hK => ?_) NextJ.nil)
            have hfin : Hid (readC L = match tailW op [] with
              | none => none
              | some w => some ⟨op, n, ⟨w.toArray⟩⟩) := by rw [Hid, hmain.out, hrd.out, hnum.out]
            have hwa := Lib.hid (wany_any k FR op n [] w5.heap.size ((w5.alloc (.cells #[.int .i64 op, .int .i64 n, .string ⟨#[]⟩] 52)).drew) hop hFR.out hTl.out kX)
            have hent := fr_enter k
            rw [hFR.out] at hent
            go_simp
            clear hent
            refine hwa.out.mono ?_
            rintro e w7 ⟨s, rfl, kX7, hs7, gr7⟩
            have kK7 : Blk w7 wo.heap.size 64 _ := kK6.drewC.grown gr7 hne1
            have k7 : Blk w7 w.heap.size 52 _ := k6.drewC.grown gr7 hne2
            have hB7 : Below w.heap.size w w7 := ⟨gr7.os.trans hB6.os, gr7.tape.trans hB6.tape, gr7.output.trans hB6.output, Nat.le_trans hB6.size gr7.size, fun j hj => (gr7.block j (by have := hB6.size; show j < (w5.alloc (.cells #[.int .i64 op, .int .i64 n, .string ⟨#[]⟩] 52)).heap.size; omega) (fun e => absurd (Option.some.inj e) (by have := hB5.size; omega))).trans (hB6.block j hj)⟩
            have hS7 : w7.cell? ⟨wo.heap.size, 3, none⟩ = some (.func (.func FR) #[] #[]) := kK7.cell 3 _ rfl
            refine hK.out _ _ hS7 (fun h => absurd h (by decide)) ?_
            clear hK K hS1
            try simp only [Act.put, List.getElem_toArray, List.getElem_cons_succ, List.getElem_cons_zero, List.setIfInBounds_toArray, List.set_cons_zero, List.set_cons_succ]
            refine wpAnyJ_ready [9] (by kernel_rfl) (by simp) (NextJ.cons rfl (fun K hK => ?_) NextJ.nil)
            go_simp
            refine hK.out _ _ hS7 (fun h => absurd h (by decide)) ?_
            clear hK K
            try simp only [Act.put, List.getElem_toArray, List.getElem_cons_succ, List.getElem_cons_zero, List.setIfInBounds_toArray, List.set_cons_zero, List.set_cons_succ]
            refine wpAnyJ_ready [10] (by kernel_rfl) (by simp) (NextJ.cons rfl (fun K hK => ?_) NextJ.nil)
            go_simp
            refine hK.out _ _ hS7 (fun h => absurd h (by decide)) ?_
            clear hK K
            try simp only [Act.put, List.getElem_toArray, List.getElem_cons_succ, List.getElem_cons_zero, List.setIfInBounds_toArray, List.set_cons_zero, List.set_cons_succ]
            refine wpAnyJ_done (by kernel_rfl) ?_ _
            have x0 := kX7.cell 0 _ rfl
            have x1 := kX7.cell 1 _ rfl
            have x2 := kX7.cell 2 _ rfl
            have f0 := k7.frozen 0
            have f1 := k7.frozen 1
            have f2 := k7.frozen 2
            have q0 := k7.cell 0 _ rfl
            have q1 := k7.cell 1 _ rfl
            have q2 := k7.cell 2 _ rfl
            have l0 := k7.lt
            go_wp2_with fail
            refine cps_ret2 rfl rfl (((k7.set_ 0 _).set_ 1 _).set_ 2 _) rfl ?_
            refine ⟨⟨op, n, s⟩, ?_, ?_, ?_⟩
            · have : (readC L).isSome = (tailW op []).isSome := by rw [hfin.out]; cases tailW op [] <;> rfl
              rw [this]; rfl
            · intro y hy
              rw [hfin.out] at hy
              cases ht : tailW op [] with
              | none => rw [ht] at hy; cases hy
              | some v => rw [ht] at hy; rw [hs7 v ht]; exact Option.some.inj hy
            · exact ((hB7.setCell (p := ⟨w.heap.size, 0, none⟩) (Nat.le_refl _) _).setCell (p := ⟨w.heap.size, 1, none⟩) (Nat.le_refl _) _).setCell (p := ⟨w.heap.size, 2, none⟩) (Nat.le_refl _) _
          · have b0 : (en == 0) = false := beq_eq_false_iff_ne.2 hen
            have hno : Hid (readC L = none) := by
              rw [Hid, hmain.out, hrd.out]
              unfold numW
              rw [hint.out, if_neg hen]
            have hB6 := hB5.alloc hB5.size (.cells #[.int .i64 op, .int .i64 n, .string ⟨#[]⟩] 52)
            have k6 := k5.alloc (.cells #[.int .i64 op, .int .i64 n, .string ⟨#[]⟩] 52)
            have kX := Blk.new w5 52 #[.int .i64 op, .int .i64 n, .string ⟨#[]⟩]
            have x0 := kX.cell 0 _ rfl
            have x1 := kX.cell 1 _ rfl
            have x2 := kX.cell 2 _ rfl
            have f0 := k6.frozen 0
            have f1 := k6.frozen 1
            have f2 := k6.frozen 2
            have q0 := k6.cell 0 _ rfl
            have q1 := k6.cell 1 _ rfl
            have q2 := k6.cell 2 _ rfl
            have l0 := k6.lt
            go_wp2_with fail
            go_quiet (fail)
            go_wp2_with fail
            refine cps_ret2 rfl rfl ((((k6.drewNC _).set_ 0 _).set_ 1 _).set_ 2 _) rfl ?_
            refine ⟨⟨op, n, ⟨#[]⟩⟩, by rw [hno.out]; rfl, fun y hy => (by rw [hno.out] at hy; cases hy), ?_⟩
            exact (((hB6.drewN _).setCell (p := ⟨w.heap.size, 0, none⟩) (Nat.le_refl _) _).setCell (p := ⟨w.heap.size, 1, none⟩) (Nat.le_refl _) _).setCell (p := ⟨w.heap.size, 2, none⟩) (Nat.le_refl _) _
    · obtain rfl : k = 3 := by omega
      have hno : Hid (readC L = none) := by rw [Hid, hrk.out]; rfl
      have f0 := kR.frozen 0
      have f1 := kR.frozen 1
      have f2 := kR.frozen 2
      have q0 := kR.cell 0 _ rfl
      have q1 := kR.cell 1 _ rfl
      have q2 := kR.cell 2 _ rfl
      have l0 := kR.lt
      clear hrk
      go_wp2_with fail
      refine cps_ret2 rfl rfl (((kR.set_ 0 _).set_ 1 _).set_ 2 _) rfl ?_
      refine ⟨⟨0, 0, ByteArray.empty⟩, by rw [hno.out]; rfl, fun y hy => (by rw [hno.out] at hy; cases hy), ?_⟩
      exact ((hB.setCell (p := ⟨w.heap.size, 0, none⟩) (Nat.le_refl _) _).setCell (p := ⟨w.heap.size, 1, none⟩) (Nat.le_refl _) _).setCell (p := ⟨w.heap.size, 2, none⟩) (Nat.le_refl _) _
end Go.Proofs.YtmfklcnocekdlaaGreatDoor
