/- faults: Print and Parse at the document's examples. -/
import Derived.Test.YtblifdchofihoaaGreatDoorKinds
import Derived.Test.YtblifdchofihoaaGreatDoorShelf
import Derived.BigRegion
set_option linter.unusedSimpArgs false
set_option linter.unusedVariables false
namespace Go.Proofs.YtblifdchofihoaaGreatDoor
open Go Go.RowKit Tor

theorem digS_any (i : Nat) (hi : i < 100) (w : World) : Calls Tryz.prog 42 #[.int .i64 i] w (Ret (.string ⟨(Lib.decDigits i).toArray⟩) w) := by
  go_enter Tryz.func42, Tryz.ntmps42
  go_wp2_with (first | (go_at_call 61; refine (Tryz.strconv_FormatInt_10_small i hi _).mono ?_; rintro e w1 ⟨rfl, rfl⟩) | fail)
  go_ret
  exact ⟨rfl, Below.refl _ _⟩
theorem dig2_any (w : World) : Calls Tryz.prog 42 #[.int .i64 2] w (Ret (.string ⟨#[50]⟩) w) := by
  have h := digS_any 2 (by decide) w
  have h2 : Lib.decDigits 2 = [50] := by rw [Lib.decDigits_one (by decide)]; decide
  rw [h2] at h
  exact h
theorem dig2_ex (w : World) (g : Ex w) : Calls Tryz.prog 42 #[.int .i64 2] g.w fun e w'' => e = .returned (.string ⟨#[50]⟩) ∧ ∃ g' : Ex w, w'' = g'.w := calls_ex (dig2_any g.w)
theorem infoStr : (Tryz.prog.info? 9).map (fun i => (i.zero, i.size, i.bytes)) = some (some (.string ByteArray.empty), 1, 16) := by kernel_rfl
theorem str_one (x : ByteArray) : ∀ u ∈ senc x, u.oneCell' = true := by
  intro u hu
  simp only [senc, List.mem_cons, List.not_mem_nil, or_false] at hu
  rcases hu with rfl; rfl
theorem str_len (x : ByteArray) : (senc x).length = 1 := rfl
theorem wpList_append_str {P : Program} {ops : Array Oper} {rest : List Oper} {o : Oper} {a : Act} {Q : Exit → Act → World → Prop} {w : World} (hgd : o.guard = none) (s x : Operand) (t : TypeId)
    (ho : o.op = .call { callee := .builtin .append, args := #[s, x], argTypes := #[t, t] })
    (base : Nat) (e : TypeId) (i : TypeInfo) (z : Value) (ht : P.underlying t = some (.slice e)) (hi : P.info? e = some i) (hz : i.zero = some z)
    (hsize : i.size = 1) (hby : i.bytes = 16) (hzs : z.cells.size = 1)
    (v : Value) (l : List ByteArray) (hs : a.eval s = v) (hown : Own 1 senc w base e v l)
    (g : Nat) (y : ByteArray) (hx : a.eval x = .slice (some ⟨g, 0, none⟩) 1 1) (h0 : w.cell? ⟨g, 0, none⟩ = some (.string y))
    (hlen : l.length ≤ 1000000) (hbase : base ≤ w.heap.size)
    (h : ∀ v' w', Own 1 senc w' base e v' (l ++ [y]) → w.grownBy w' v.ownBlock → wpList P ops Q rest (a.put o.dst v') w') : wpList P ops Q (o :: rest) a w := by
  refine wpList_append_own w hgd s x t ho base e i z 1 16 ht hi hz hsize hby hzs (by omega) v l.length (l.flatMap senc) hs hown ⟨g, 0, none⟩ 1 1 (senc y) hx rfl ?_ (str_one y) (by unfold maxLen; omega) (by omega) hbase
    (fun v' w' a b _ => h v' w' (Own.append1 rfl a) b)
  intro j u hu
  match j, hu with
  | 0, hu => simp [senc] at hu; subst hu; exact h0
theorem own_two {w : World} {base g : Nat} {a b : ByteArray} (hg : base ≤ g) (h : Blk w g 9 #[.string a, .string b]) : Own 1 senc w base 9 (.slice (some ⟨g, 0, none⟩) 2 2) [a, b] :=
  ⟨rfl, Or.inr ⟨g, 2, _, rfl, hg, h, Nat.le_refl 2, by unfold maxLen; omega, rfl, rfl⟩⟩

set_option maxRecDepth 100000 in
set_option maxHeartbeats 4000000 in
/-- what is written of the document's fault -/
theorem fwrite_ex (kb : Nat) (w : World) (k0 : w.cell? ⟨kb, 0, none⟩ = some (.int .i64 2)) (k1 : w.cell? ⟨kb, 1, none⟩ = some (.string ⟨#[101, 120, 116, 114, 97]⟩)) (k2 : w.cell? ⟨kb, 2, none⟩ = some (.bool true)) :
    Calls Tryz.prog 16 #[.pointer (some ⟨kb, 0, none⟩), .agg #[.int .i64 2, .int .i64 2, .int .i64 2, .int .i64 80]] w (Ret (.string ⟨#[101, 120, 116, 114, 97, 32, 50, 32, 50, 32, 80]⟩) w) := by
  obtain ⟨i0, hi0, hz0', hz1', hz2'⟩ := info_parts infoStr
  have hBB : Below w.heap.size w (w.alloc (.cells #[.int .i64 2, .int .i64 2, .int .i64 2, .int .i64 80] 23)) := by (repeat' first | exact Below.refl _ _ | apply Below.drew | (refine Below.setCells ?_ _ _ ?_) | (refine Below.setCell ?_ ?_ _) | (refine Below.alloc ?_ ?_ _) | (simp; done) | (simp; omega))
  have kF := Blk.new w 23 #[.int .i64 2, .int .i64 2, .int .i64 2, .int .i64 80]
  have kbl := lt_of_cell k0
  have fl := kF.lt
  have k0' := cell_old (o := .cells #[.int .i64 2, .int .i64 2, .int .i64 2, .int .i64 80] 23) k0
  have k1' := cell_old (o := .cells #[.int .i64 2, .int .i64 2, .int .i64 2, .int .i64 80] 23) k1
  have k2' := cell_old (o := .cells #[.int .i64 2, .int .i64 2, .int .i64 2, .int .i64 80] 23) k2
  go_enter Tryz.func16, Tryz.ntmps16
  go_wp2_with fail
  generalize w.alloc (.cells #[.int .i64 2, .int .i64 2, .int .i64 2, .int .i64 80] 23) = W at *
  have kbW := lt_of_cell k0'
  have f1 := kF.cell 1 (.int .i64 2) rfl
  have f2 := kF.cell 2 (.int .i64 2) rfl
  have f3 := kF.cell 3 (.int .i64 80) rfl
  refine wp_region_J (fun w' => w'.cell? ⟨kb, 1, none⟩ = some (.string ⟨#[101, 120, 116, 114, 97]⟩) ∧ w'.cell? ⟨w.heap.size, 1, none⟩ = some (.int .i64 2)) (fun _ => True) (fun _ => false) (by kernel_rfl) ?_
  have hS1 : W.drew.cell? ⟨kb, 1, none⟩ = some (.string ⟨#[101, 120, 116, 114, 97]⟩) ∧ W.drew.cell? ⟨w.heap.size, 1, none⟩ = some (.int .i64 2) := ⟨k1', f1⟩
  refine wpAnyJ_take1 0 rfl (by kernel_rfl) (by kernel_rfl) rfl (by kernel_rfl) (fun _ _ _ h => h) (by rfl) hS1 (fun w' hSw => (by obtain ⟨z1, z2⟩ := hSw; go_simp; try (with_reducible rfl))) ?_
  try simp only [Act.put, List.getElem_toArray, List.getElem_cons_succ, List.getElem_cons_zero, List.setIfInBounds_toArray, List.set_cons_zero, List.set_cons_succ]
  refine wpAnyJ_take1 1 rfl (by kernel_rfl) (by kernel_rfl) rfl (by kernel_rfl) (fun _ _ _ h => h) (by rfl) hS1 (fun w' hSw => (by obtain ⟨z1, z2⟩ := hSw; go_simp; try (with_reducible rfl))) ?_
  try simp only [Act.put, List.getElem_toArray, List.getElem_cons_succ, List.getElem_cons_zero, List.setIfInBounds_toArray, List.set_cons_zero, List.set_cons_succ]
  refine wpAnyJ_take1 2 rfl (by kernel_rfl) (by kernel_rfl) rfl (by kernel_rfl) (fun _ _ _ h => h) (by rfl) hS1 (fun w' hSw => (by obtain ⟨z1, z2⟩ := hSw; go_simp; try (with_reducible rfl))) ?_
  try simp only [Act.put, List.getElem_toArray, List.getElem_cons_succ, List.getElem_cons_zero, List.setIfInBounds_toArray, List.set_cons_zero, List.set_cons_succ]
  refine wpAnyJ_take1 3 rfl (by kernel_rfl) (by kernel_rfl) rfl (by kernel_rfl) (fun _ _ _ h => h) (by rfl) hS1 (fun w' hSw => (by obtain ⟨z1, z2⟩ := hSw; go_simp; try (with_reducible rfl))) ?_
  try simp only [Act.put, List.getElem_toArray, List.getElem_cons_succ, List.getElem_cons_zero, List.setIfInBounds_toArray, List.set_cons_zero, List.set_cons_succ]
  refine wpAnyJ_take1 4 rfl (by kernel_rfl) (by kernel_rfl) rfl (by kernel_rfl) (fun _ _ _ h => h) (by rfl) hS1 (fun w' hSw => (by obtain ⟨z1, z2⟩ := hSw; go_simp; try (with_reducible rfl))) ?_
  try simp only [Act.put, List.getElem_toArray, List.getElem_cons_succ, List.getElem_cons_zero, List.setIfInBounds_toArray, List.set_cons_zero, List.set_cons_succ]
  refine wpAnyJ_take1 5 rfl (by kernel_rfl) (by kernel_rfl) rfl (by kernel_rfl) (fun _ _ _ h => h) (by rfl) hS1 (fun w' hSw => (by obtain ⟨z1, z2⟩ := hSw; go_simp; try (with_reducible rfl))) ?_
  try simp only [Act.put, List.getElem_toArray, List.getElem_cons_succ, List.getElem_cons_zero, List.setIfInBounds_toArray, List.set_cons_zero, List.set_cons_succ]
  refine wpAnyJ_ready [6] (by kernel_rfl) (by simp) (NextJ.cons rfl (fun K hK => ?_) NextJ.nil)
  go_simp
  refine (dig2_any W.drew).mono ?_
  rintro e w5 ⟨rfl, hB5⟩
  have kF5 := kF.drew.below' hB5
  have k05 := (hB5.cell (p := ⟨kb, 0, none⟩) kbW).trans k0'
  have k15 := (hB5.cell (p := ⟨kb, 1, none⟩) kbW).trans k1'
  have k25 := (hB5.cell (p := ⟨kb, 2, none⟩) kbW).trans k2'
  have hS5 := And.intro k15 (kF5.cell 1 (.int .i64 2) rfl)
  go_simp
  refine hK.out _ _ hS5 (fun h => absurd h (by decide)) ?_
  clear hK K
  try simp only [Act.put, List.getElem_toArray, List.getElem_cons_succ, List.getElem_cons_zero, List.setIfInBounds_toArray, List.set_cons_zero, List.set_cons_succ]
  refine wpAnyJ_ready [7] (by kernel_rfl) (by simp) (NextJ.cons rfl (fun K hK => ?_) NextJ.nil)
  go_simp
  have hS7 := And.intro (cell_old (o := .cells #[.string ⟨#[101, 120, 116, 114, 97]⟩, .string ⟨#[50]⟩] 9) k15) ((kF5.alloc (.cells #[.string ⟨#[101, 120, 116, 114, 97]⟩, .string ⟨#[50]⟩] 9)).cell 1 (.int .i64 2) rfl)
  refine hK.out _ _ hS7 (fun h => absurd h (by decide)) ?_
  clear hK K
  try simp only [Act.put, List.getElem_toArray, List.getElem_cons_succ, List.getElem_cons_zero, List.setIfInBounds_toArray, List.set_cons_zero, List.set_cons_succ]
  refine wpAnyJ_take1 8 rfl (by kernel_rfl) (by kernel_rfl) rfl (by kernel_rfl) (fun _ _ _ h => h) (by rfl) hS7 (fun w' hSw => (by obtain ⟨z1, z2⟩ := hSw; go_simp; try (with_reducible rfl))) ?_
  try simp only [Act.put, List.getElem_toArray, List.getElem_cons_succ, List.getElem_cons_zero, List.setIfInBounds_toArray, List.set_cons_zero, List.set_cons_succ]
  refine wpAnyJ_done (by kernel_rfl) ?_ _
  clear hS1 hS5 hS7
  have k06 := cell_old (o := .cells #[.string ⟨#[101, 120, 116, 114, 97]⟩, .string ⟨#[50]⟩] 9) k05
  have k26 := cell_old (o := .cells #[.string ⟨#[101, 120, 116, 114, 97]⟩, .string ⟨#[50]⟩] 9) k25
  have kF6 := kF5.alloc (.cells #[.string ⟨#[101, 120, 116, 114, 97]⟩, .string ⟨#[50]⟩] 9)
  have kS := Blk.new w5 9 #[.string ⟨#[101, 120, 116, 114, 97]⟩, .string ⟨#[50]⟩]
  have hB6 : Below W.heap.size W (w5.alloc (.cells #[.string ⟨#[101, 120, 116, 114, 97]⟩, .string ⟨#[50]⟩] 9)) := Below.alloc (B := W.heap.size) (a := W) ⟨hB5.os, hB5.tape, hB5.output, hB5.size, hB5.block⟩ hB5.size _
  have ho6 : Own 1 senc (w5.alloc (.cells #[.string ⟨#[101, 120, 116, 114, 97]⟩, .string ⟨#[50]⟩] 9)) W.heap.size 9 (.slice (some ⟨w5.heap.size, 0, none⟩) 2 2) [⟨#[101, 120, 116, 114, 97]⟩, ⟨#[50]⟩] := own_two hB5.size kS
  have kbz : kb < (w5.alloc (.cells #[.string ⟨#[101, 120, 116, 114, 97]⟩, .string ⟨#[50]⟩] 9)).heap.size := lt_of_cell k06
  have hsz : W.heap.size ≤ (w5.alloc (.cells #[.string ⟨#[101, 120, 116, 114, 97]⟩, .string ⟨#[50]⟩] 9)).heap.size := hB6.size
  have g2 := kF6.cell 2 (.int .i64 2) rfl
  have g3 := kF6.cell 3 (.int .i64 80) rfl
  generalize w5.alloc (.cells #[.string ⟨#[101, 120, 116, 114, 97]⟩, .string ⟨#[50]⟩] 9) = w6 at *
  have tk1 : True := trivial
  go_wp2_with (first
    | (go_at_call 42; refine (dig2_any _).mono ?_; rintro e w7 ⟨rfl, hB7⟩
       have hB8 := hB6.trans (hB7.mono hB6.size)
       have hs7 := hB8.size
       have ho7 := ho6.below hB7
       have k07 := (hB7.cell (p := ⟨kb, 0, none⟩) kbz).trans k06
       have kF7 := kF6.below' hB7)
    | (at_builtin; have := tk1; refine wpList_append_str rfl (.tmp 18) (.tmp 22) _ rfl W.heap.size _ i0 _ Tryz.underlying53 hi0 hz0' hz1' hz2' rfl _ _ rfl (ho7.alloc _) w7.heap.size ⟨#[50]⟩ rfl (World.cell?_alloc_new _ _ _ 0) (by decide) (by simp; omega) ?_; intro v8 w8 hown8 hg8; clear tk1
       have hB9 := (ho7.alloc _).grown (hB8.alloc hs7 _) hg8 (by simp; omega)
       have k08 := (hB9.cell (p := ⟨kb, 0, none⟩) kbW).trans k0'
       have kF8 := kF.below' hB9
       have g38 := kF8.cell 3 (.int .i64 80) rfl
       obtain ⟨A8, c8, rfl, _, _⟩ := Own.rd str_len hown8)
    | (at_builtin; refine wpList_append_str rfl (.tmp 30) (.tmp 35) _ rfl W.heap.size _ i0 _ Tryz.underlying53 hi0 hz0' hz1' hz2' rfl _ _ rfl (hown8.alloc _) w8.heap.size ⟨#[80]⟩ rfl (World.cell?_alloc_new _ _ _ 0) (by decide) (by have := hB9.size; simp; omega) ?_; intro v10 w10 hown10 hg10
       have hB11 := (hown8.alloc _).grown (hB9.alloc hB9.size _) hg10 (by have := hB9.size; simp; omega)
       obtain ⟨A10, c10, rfl, hc10, hr10⟩ := Own.rd str_len hown10
       obtain ⟨bk, ok, rfl, hbk, hcells⟩ := hr10 (by decide))
    | (go_at_call 43; refine (Tryz.strings_Join bk ok c10 _ ⟨#[32]⟩ _ (fun j x hx => (by have := hcells j x hx 0 _ rfl; simpa using this)) hbk (by decide) hc10 (by decide)).mono ?_; rintro e w12 ⟨rfl, hB12⟩)
    | fail)
  go_ret
  exact Ret.val rfl ((hBB.trans (hB11.mono hBB.size)).trans (hB12.mono (hBB.trans (hB11.mono hBB.size)).size))

abbrev sPlace : ByteArray := ⟨#[112, 108, 97, 99, 101]⟩
abbrev sLine : ByteArray := ⟨#[112, 108, 97, 99, 101, 32, 50, 32, 48]⟩
theorem split_ex (m : Int) (w : World) (hm : w.cell? ⟨0, 0, none⟩ = some (.int .i64 m)) : Calls Tryz.prog 19 #[.string sLine, .string ⟨#[32]⟩] w fun e w' =>
    e = .returned (.slice (some ⟨w.heap.size, 0, none⟩) 3 3) ∧ w' = w.alloc (.cells #[.string sPlace, .string ⟨#[50]⟩, .string ⟨#[48]⟩] 9) := by
  have h := Tryz.strings_Split sLine ⟨#[32]⟩ m w (by decide) hm (by decide)
  have h1 : Lib.countB sLine ⟨#[32]⟩ = 2 := by decide +kernel
  have h2 : Lib.splitB ⟨#[32]⟩ 0 2 sLine = [sPlace, ⟨#[50]⟩, ⟨#[48]⟩] := by decide +kernel
  rw [h1, h2] at h
  exact h

theorem digit_any (n : Int) (w : World) : Calls Tryz.prog 49 #[.int .u8 n] w (Ret (.bool (decide (48 ≤ n) && decide (n ≤ 57))) w) := by
  by_cases h1 : 48 ≤ n <;> by_cases h2 : n ≤ 57
  all_goals
    go_enter Tryz.func49, Tryz.ntmps49
    go_wp2_with fail
    go_ret
    exact Ret.val (by simp [h1, h2]) (Below.refl _ _)
set_option maxRecDepth 100000 in
theorem wint_ex (c : UInt8) (n least most : Int) (hc : (c = 48 ∧ n = 0) ∨ (c = 50 ∧ n = 2)) (h1 : least ≤ n) (h2 : n ≤ most) (w : World) :
    Calls Tryz.prog 23 #[.string ⟨#[c]⟩, .int .i64 least, .int .i64 most] w (Ret (.tuple #[.int .i64 n, .int .i64 0]) w) := by
  have hP : Lib.parseIntB 64 (⟨#[c]⟩ : ByteArray).data.toList = .ok n := by
    rcases hc with ⟨rfl, rfl⟩ | ⟨rfl, rfl⟩ <;> decide +kernel
  have HP := Lib.hid (fun (w' : World) => Tryz.strconv_ParseInt_10_at64_ok ⟨#[c]⟩ (by show 1 ≤ 9223372036854775806; omega) n hP w')
  clear hP
  have HCP : Hid (∀ w' : World, Calls Tryz.prog 48 #[.string ⟨#[c]⟩, .string ⟨#[45]⟩] w' fun e w'' => e = .returned (.tuple #[.string ⟨#[c]⟩, .bool false]) ∧ w'' = w') := by
    have e1 : Lib.trimPrefix (⟨#[c]⟩ : ByteArray).data.toList (⟨#[45]⟩ : ByteArray).data.toList = [c] := by rcases hc with ⟨rfl, rfl⟩ | ⟨rfl, rfl⟩ <;> decide
    have e2 : Lib.hasPrefix (⟨#[c]⟩ : ByteArray).data.toList (⟨#[45]⟩ : ByteArray).data.toList = false := by rcases hc with ⟨rfl, rfl⟩ | ⟨rfl, rfl⟩ <;> decide
    exact Lib.hid (fun w' => by have := Tryz.strings_CutPrefix ⟨#[c]⟩ ⟨#[45]⟩ w'; rw [e1, e2] at this; exact this)
  have b1 : ¬ most < least := by omega
  have b2 : ¬ n < least := by omega
  have b3 : ¬ most < n := by omega
  have hx48 : ((⟨#[48]⟩ : ByteArray)[0]'(by decide)) = 48 := rfl
  have hx50 : ((⟨#[50]⟩ : ByteArray)[0]'(by decide)) = 50 := rfl
  have HD : Hid (∀ w' : World, Calls Tryz.prog 49 #[.int .u8 (((⟨#[c]⟩ : ByteArray)[0]'(by show 0 < 1; omega)).toNat : Int)] w' (Ret (.bool true) w')) := by
    refine Lib.hid (fun w' => ?_)
    have h := digit_any (c.toNat : Int) w'
    have e1 : (decide (48 ≤ (c.toNat : Int)) && decide ((c.toNat : Int) ≤ 57)) = true := by
      rcases hc with ⟨rfl, rfl⟩ | ⟨rfl, rfl⟩ <;> rfl
    rw [e1] at h
    exact h
  rcases hc with ⟨rfl, rfl⟩ | ⟨rfl, rfl⟩
  all_goals
    go_enter Tryz.func23, Tryz.ntmps23
    go_wp2_with (first
      | (go_at_call 48; refine (HCP.out w).mono ?_; rintro e w1 ⟨rfl, rfl⟩)
      | fail)
    go_loopw [23] (fun i wr => (i = .int .i64 0 ∨ i = .int .i64 1) ∧ Below w1.heap.size w1 wr) (fun i _ => 1 - (intOf i).toNat)
    case atStart => exact ⟨Or.inl rfl, Below.refl _ _⟩
    case round =>
      obtain ⟨hj, hB1⟩ := hrel
      rcases hj with rfl | rfl
      · go_wp2_with (first
          | (go_at_call 49; refine (HD.out _).mono ?_; rintro e w2 ⟨rfl, hB2⟩)
          | fail)
        go_roundw
        case rel => exact ⟨Or.inr rfl, hB1.trans (hB2.mono hB1.size)⟩
        case measure => simp [intOf]
      · go_wp2_with (first
          | (go_at_call 50; refine (HP.out _).mono ?_; rintro e w2 ⟨rfl, hw2⟩
             have hB2 : Below wr.heap.size wr w2 := by
               rcases hw2 with rfl | ⟨t, rfl⟩
               · exact Below.refl _ _
               · exact ⟨rfl, rfl, rfl, by rw [Lib.bytesWorld_size]; omega, fun k hk => Lib.bytesWorld_at_old _ _ _ k hk⟩
             clear hw2)
          | fail)
        go_ret2
        exact ⟨rfl, hB1.trans (hB2.mono hB1.size)⟩

set_option maxRecDepth 100000 in
theorem pname_any (lb gS : Nat) (K : KAt) (k : Int) (hk : 1 ≤ k ∧ k ≤ 6) (w : World) (b0 : w.cell? ⟨lb, 0, none⟩ = some (.slice (some ⟨gS, 0, none⟩) 3 3)) (s0 : w.cell? ⟨gS, 0, none⟩ = some (.string sPlace)) :
    Calls Tryz.prog 21 #[.agg (kcells K k).toArray, .pointer (some ⟨lb, 0, none⟩)] w (Ret (.bool (decide (k = 5))) w) := by
  obtain ⟨V, hV⟩ : ∃ V, Hid (K.withs k = V) := ⟨_, Lib.hid rfl⟩
  obtain ⟨i1, hi1⟩ : ∃ x, Hid (klf k = x) := ⟨_, Lib.hid rfl⟩
  obtain ⟨i2, hi2⟩ : ∃ x, Hid (kpf k = x) := ⟨_, Lib.hid rfl⟩
  obtain ⟨kl, hkl⟩ : ∃ x, Hid (klet k = x) := ⟨_, Lib.hid rfl⟩
  have hkc : (kcells K k).toArray = #[.int .i64 k, .string (kname k), .bool kl, V, .func (.func i1) #[] #[], .func (.func i2) #[] #[]] := by unfold kcells; rw [hV.out, hkl.out, hi1.out, hi2.out]
  rw [hkc]
  clear hkc
  have hBB : Below w.heap.size w (w.alloc (.cells #[.int .i64 k, .string (kname k), .bool kl, V, .func (.func i1) #[] #[], .func (.func i2) #[] #[]] 44)) := by (repeat' first | exact Below.refl _ _ | apply Below.drew | (refine Below.setCells ?_ _ _ ?_) | (refine Below.setCell ?_ ?_ _) | (refine Below.alloc ?_ ?_ _) | (simp; done) | (simp; omega))
  have kK := Blk.new w 44 #[.int .i64 k, .string (kname k), .bool kl, V, .func (.func i1) #[] #[], .func (.func i2) #[] #[]]
  have n1 := kK.cell 1 _ rfl
  have b0' := cell_old (o := .cells #[.int .i64 k, .string (kname k), .bool kl, V, .func (.func i1) #[] #[], .func (.func i2) #[] #[]] 44) b0
  have s0' := cell_old (o := .cells #[.int .i64 k, .string (kname k), .bool kl, V, .func (.func i1) #[] #[], .func (.func i2) #[] #[]] 44) s0
  have hd : Hid (((kname k).toList == [112, 108, 97, 99, 101]) = decide (k = 5)) := by
    rcases (show k = 1 ∨ k = 2 ∨ k = 3 ∨ k = 4 ∨ k = 5 ∨ k = 6 by omega) with rfl | rfl | rfl | rfl | rfl | rfl <;> exact Lib.hid (by decide +kernel)
  obtain ⟨B, hB⟩ : ∃ B, Hid (decide (k = 5) = B) := ⟨_, Lib.hid rfl⟩
  obtain ⟨nm, hnm⟩ : ∃ nm, Hid (kname k = nm) := ⟨_, Lib.hid rfl⟩
  rw [hB.out, hnm.out] at hd
  rw [hnm.out] at hBB n1 b0' s0' ⊢
  rw [hB.out]
  clear kK
  go_enter Tryz.func21, Tryz.ntmps21
  go_wp2_with fail
  go_quiet (fail)
  go_wp2_with fail
  go_ret
  exact Ret.val (by rw [← hd.out]; rfl) (hBB.drewN _)

set_option maxRecDepth 100000 in
set_option maxHeartbeats 2000000 in
theorem indexk_any (lb gS g H : Nat) (K : KAt) (w : World) (hK : KindsAt w H g K) (hH : H ≤ w.heap.size) (b0 : w.cell? ⟨lb, 0, none⟩ = some (.slice (some ⟨gS, 0, none⟩) 3 3)) (s0 : w.cell? ⟨gS, 0, none⟩ = some (.string sPlace)) :
    Calls Tryz.prog 20 #[.slice (some ⟨g, 0, none⟩) 6 6, .func (.func 21) #[] #[.pointer (some ⟨lb, 0, none⟩)]] w (Ret (.int .i64 4) w) := by
  obtain ⟨wo, rfl⟩ : ∃ wo : World, wo = w := ⟨_, rfl⟩
  have lbl := lt_of_cell b0
  have gSl := lt_of_cell s0
  have gl : g < wo.heap.size := Nat.lt_of_lt_of_le hK.lt hH
  go_enter Tryz.func20, Tryz.ntmps20
  go_wp2_with fail
  go_loopw [8] (fun i wr => ∃ j : Nat, j ≤ 4 ∧ i = .int .i64 j ∧ Below wo.heap.size wo wr) (fun i _ => 6 - (intOf i).toNat)
  case atStart => exact ⟨0, by omega, rfl, Below.refl _ _⟩
  case round =>
    obtain ⟨j, hj, rfl, hB⟩ := hrel
    have a1 : (j : Int) < 6 := by omega
    have kb := (hK.blk).below hB gl
    have b1 := (hB.cell (p := ⟨lb, 0, none⟩) lbl).trans b0
    have s1 := (hB.cell (p := ⟨gS, 0, none⟩) gSl).trans s0
    have HN := Lib.hid (fun (k : Int) (hk : 1 ≤ k ∧ k ≤ 6) => pname_any lb gS K k hk wr b1 s1)
    obtain ⟨V, hV⟩ : ∃ V, Hid (K.withs ((j : Int) + 1) = V) := ⟨_, Lib.hid rfl⟩
    obtain ⟨i1, hi1⟩ : ∃ x, Hid (klf ((j : Int) + 1) = x) := ⟨_, Lib.hid rfl⟩
    obtain ⟨i2, hi2⟩ : ∃ x, Hid (kpf ((j : Int) + 1) = x) := ⟨_, Lib.hid rfl⟩
    obtain ⟨kl, hkl⟩ : ∃ x, Hid (klet ((j : Int) + 1) = x) := ⟨_, Lib.hid rfl⟩
    obtain ⟨nm, hnm⟩ : ∃ x, Hid (kname ((j : Int) + 1) = x) := ⟨_, Lib.hid rfl⟩
    have hkc : Hid (kcells K ((j : Int) + 1) = [.int .i64 ((j : Int) + 1), .string nm, .bool kl, V, .func (.func i1) #[] #[], .func (.func i2) #[] #[]]) := by unfold kcells; rw [hV.out, hkl.out, hi1.out, hi2.out, hnm.out]; exact Lib.hid rfl
    have kc : ∀ q u, (kcells K ((j : Int) + 1))[q]? = some u → wr.cell? ⟨g, j * 6 + q, none⟩ = some u := fun q u hu => by
      have hq : q < 6 := by have := (List.getElem?_eq_some_iff.1 hu).1; simpa [kcells] using this
      refine kb.cell _ _ ?_
      clear hkc
      rcases (show j = 0 ∨ j = 1 ∨ j = 2 ∨ j = 3 ∨ j = 4 by omega) with rfl | rfl | rfl | rfl | rfl <;>
        rcases (show q = 0 ∨ q = 1 ∨ q = 2 ∨ q = 3 ∨ q = 4 ∨ q = 5 by omega) with rfl | rfl | rfl | rfl | rfl | rfl <;> exact hu
    have d0 := kc 0 _ (by rw [hkc.out]; rfl)
    have d1 := kc 1 _ (by rw [hkc.out]; rfl)
    have d2 := kc 2 _ (by rw [hkc.out]; rfl)
    have d3 := kc 3 _ (by rw [hkc.out]; rfl)
    have d4 := kc 4 _ (by rw [hkc.out]; rfl)
    have d5 := kc 5 _ (by rw [hkc.out]; rfl)
    simp only [Nat.add_zero] at d0
    clear kc kb
    have HM := HN.out ((j : Int) + 1) (by omega)
    rw [hkc.out] at HM
    obtain ⟨B, hBd⟩ : ∃ B, Hid (decide ((j : Int) + 1 = 5) = B) := ⟨_, Lib.hid rfl⟩
    rw [hBd.out] at HM
    have HM := Lib.hid HM
    by_cases h4 : j = 4
    · have hBt : B = true := by rw [← hBd.out]; exact decide_eq_true (by omega)
      subst hBt
      have H4 := Lib.hid h4
      clear HN hBd h4
      go_wp2_with (first
        | (go_at_call 21; refine HM.out.mono ?_; rintro e w2 ⟨rfl, hB2⟩)
        | fail)
      go_ret
      exact Ret.int (by rw [H4.out]; rfl) (hB.trans (hB2.mono hB.size))
    · have hBt : B = false := by rw [← hBd.out]; exact decide_eq_false (by omega)
      subst hBt
      clear HN hBd
      go_wp2_with (first
        | (go_at_call 21; refine HM.out.mono ?_; rintro e w2 ⟨rfl, hB2⟩)
        | fail)
      go_roundw
      case rel => exact ⟨j + 1, by omega, by go_num, hB.trans (hB2.mono hB.size)⟩
      case measure => simp [intOf]; omega
end Go.Proofs.YtblifdchofihoaaGreatDoor
