/- strings.IndexAny of the marks of an item, at any string. -/
import Derived.Lib.SpaceUEq
import Derived.Test.YtohcmfobnkaaiaaGreatDoorShelf
import Derived.Test.YtohcmfobnkaaiaaGreatDoorSplM
import Derived.Test.YtohcmfobnkaaiaaGreatDoorShow01
import Derived.Test.YtohcmfobnkaaiaaGreatDoorWIdx
import Derived.Test.YtohcmfobnkaaiaaGreatDoorOldA
import Derived.RangeFuncBox
import Derived.Laws.Runes
set_option linter.unusedSimpArgs false
set_option linter.unusedVariables false
namespace Go.Proofs.YtohcmfobnkaaiaaGreatDoor
open Go Go.RowKit Tor

theorem enc_size {r : Nat} (h1 : 128 ≤ r) : 2 ≤ (Utf8.encode (r : Int)).size ∧ (Utf8.encode (r : Int)).size ≤ 4 := by
  unfold Utf8.encode
  simp only
  have hc : 128 ≤ (if Utf8.valid (r : Int) = true then (r : Int).toNat else Utf8.runeError) := by
    split
    · rw [Int.toNat_natCast]; exact h1
    · decide
  generalize (if Utf8.valid (r : Int) = true then (r : Int).toNat else Utf8.runeError) = c at *
  rw [if_neg (by omega)]
  split
  · exact ⟨Nat.le_refl _, by show 2 ≤ 4; omega⟩
  split
  · exact ⟨by show 2 ≤ 3; omega, by show 3 ≤ 4; omega⟩
  · exact ⟨by show 2 ≤ 4; omega, Nat.le_refl _⟩
theorem enc_two {r : Nat} (h1 : 128 ≤ r) (R : ByteArray) (hR : Utf8.encode (r : Int) = R) (h2 : R.size = 2) (h : 1 < R.size) : 128 ≤ (R[1]'h).toNat := by
  unfold Utf8.encode at hR
  simp only at hR
  have hc : 128 ≤ (if Utf8.valid (r : Int) = true then (r : Int).toNat else Utf8.runeError) := by
    split
    · rw [Int.toNat_natCast]; exact h1
    · decide
  generalize (if Utf8.valid (r : Int) = true then (r : Int).toNat else Utf8.runeError) = c at *
  rw [if_neg (by omega)] at hR
  split at hR
  · subst hR
    show 128 ≤ (UInt8.ofNat (128 + c % 64)).toNat
    rw [UInt8.toNat_ofNat']
    omega
  split at hR
  · subst hR
    exact absurd h2 (by show ¬ 3 = 2; omega)
  · subst hR
    exact absurd h2 (by show ¬ 4 = 2; omega)
set_option maxRecDepth 1000000 in
set_option maxHeartbeats 4000000 in
theorem irune_any (r : Nat) (w : World) (h1 : 128 ≤ r) : Calls Tryz.prog 53 #[.string ⟨#[45, 120]⟩, .int .i32 (r : Int)] w (Ret (.int .i64 (-1)) w) := by
  have a0 : (0 : Int) ≤ (r : Int) := by omega
  have a1 : ¬ (r : Int) < 128 := by omega
  have s2 : (⟨#[45, 120]⟩ : ByteArray).size = 2 := rfl
  by_cases hE : r = 65533
  · have a2 : ((r : Int) == 65533) = true := by rw [hE]; rfl
    have a3 : (r : Int) = 65533 := by omega
    clear hE
    go_enter Tryz.func53, Tryz.ntmps53
    go_wp2_with fail
    go_loopg [5, 6] 2 (fun g _ _ wx => ∃ i : Nat, i + g = 2 ∧ wx = w.iter ⟨#[45, 120]⟩ i)
    case atStart => exact ⟨0, by omega, rfl⟩
    case round =>
      obtain ⟨i, hig, rfl⟩ := hrel
      cases gk with
      | zero =>
        obtain rfl : i = 2 := by omega
        have hnx := run_next_end (P := Tryz.prog) w ⟨#[45, 120]⟩ 2
        go_wp2_with fail
        go_ret
        exact ⟨rfl, (Below.refl _ _).alloc (Nat.le_refl _) _⟩
      | succ g =>
        rcases (show i = 0 ∨ i = 1 by omega) with rfl | rfl
        · have hnx := fun ty => run_next_ascii (P := Tryz.prog) w ⟨#[45, 120]⟩ 0 ty (by decide) (by decide)
          go_wp2_with fail
          go_roundg g
          case measure => omega
          case rel => exact ⟨1, by omega, rfl⟩
        · have hnx := fun ty => run_next_ascii (P := Tryz.prog) w ⟨#[45, 120]⟩ 1 ty (by decide) (by decide)
          go_wp2_with fail
          go_roundg g
          case measure => omega
          case rel => exact ⟨2, by omega, rfl⟩
  have a2 : ((r : Int) == 65533) = false := by rw [beq_eq_false_iff_ne]; omega
  have a3 : ¬ (r : Int) = 65533 := by omega
  cases hv : Lib.validRune (r : Int)
  · have HV := Lib.hid (fun w' => (by have := Tryz.utf8_ValidRune (r : Int) w'; rw [hv] at this; exact this : Calls Tryz.prog 66 #[.int .i32 (r : Int)] w' fun e w'' => e = .returned (.bool false) ∧ w'' = w'))
    clear hv hE
    go_enter Tryz.func53, Tryz.ntmps53
    go_wp2_with fail
    refine (HV.out _).mono ?_
    rintro e w' ⟨rfl, rfl⟩
    go_wp2_with fail
    go_ret
    exact ⟨rfl, Below.refl _ _⟩
  · have HV := Lib.hid (fun w' => (by have := Tryz.utf8_ValidRune (r : Int) w'; rw [hv] at this; exact this : Calls Tryz.prog 66 #[.int .i32 (r : Int)] w' fun e w'' => e = .returned (.bool true) ∧ w'' = w'))
    have hz := enc_size h1
    obtain ⟨R, hR⟩ : ∃ R, Utf8.encode (r : Int) = R := ⟨_, rfl⟩
    rw [hR] at hz
    obtain ⟨S, hS⟩ : ∃ S, (⟨#[45, 120]⟩ : ByteArray) = S := ⟨_, rfl⟩
    have hw2 : IntKind.i64.wrap 2 = 2 := by decide
    have hex : S.extract 2 2 = ByteArray.empty := by subst hS; rfl
    have s1 : 1 < S.size := by rw [← hS]; decide
    have hS1 : S[1]'s1 = 120 := by subst hS; rfl
    obtain ⟨x, hx⟩ : ∃ x, S[1]'s1 = x := ⟨_, rfl⟩
    have hx2 : x = 120 := by rw [← hx, hS1]
    have s1' : (1 : Int) < (S.size : Int) := by omega
    rw [hS] at s2 ⊢
    clear hS hS1
    by_cases h2 : R.size = 2
    · have hsz : 1 < R.size := by omega
      have hsz0 : 0 < R.size := by omega
      obtain ⟨b, hb⟩ : ∃ b, R[1]'hsz = b := ⟨_, rfl⟩
      have hb8 : 128 ≤ b.toNat := by
        have := enc_two h1 R hR h2 hsz
        rw [hb] at this
        exact this
      have hx3 : x.toNat = 120 := by rw [hx2]; rfl
      have e1 : ((x.toNat : Int) != (b.toNat : Int)) = true := by rw [bne_iff_ne]; omega
      have e1' : ¬ (x.toNat : Int) = (b.toNat : Int) := by omega
      clear hx2 hx3
      have e2 : (R.size : Int) - 1 = 1 := by omega
      have HB : Hid (∀ w', Calls Tryz.prog 65 #[.string ByteArray.empty, .int .u8 (b.toNat : Int)] w' fun e w'' => e = .returned (.int .i64 (-1)) ∧ w'' = w') := Lib.hid (fun w' => (Tryz.strings_IndexByte ByteArray.empty (b.toNat : Int) w').mono (fun e w'' h => ⟨h.1, h.2⟩))
      have e4 : (1 : Int) < (R.size : Int) := by omega
      clear hv hE hz h2
      go_enter Tryz.func53, Tryz.ntmps53
      go_wp2_with fail
      refine (HV.out _).mono ?_
      rintro e w' ⟨rfl, rfl⟩
      go_wp2_with fail
      go_step3
      go_wp2_with fail
      go_loopg [9] 1 (fun g i wx => i = .int .i64 1 ∧ wx = w')
      case atStart => exact ⟨rfl, rfl⟩
      case round =>
        obtain ⟨rfl, rfl⟩ := hrel
        go_wp2_with fail
        go_step3
        go_wp2_with fail
        refine wp_region_J (fun _ => True) (fun _ => True) (fun _ => false) (by kernel_rfl) ?_
        refine wpAnyJ_take1 0 rfl (by kernel_rfl) (by kernel_rfl) rfl (by kernel_rfl) (fun _ _ _ h => h) (by rfl) trivial (fun w' _ => (by go_simp; try (with_reducible rfl))) ?_
        try simp only [Act.put, List.getElem_toArray, List.getElem_cons_succ, List.getElem_cons_zero, List.setIfInBounds_toArray, List.set_cons_zero, List.set_cons_succ]
        refine wpAnyJ_take1 1 rfl (by kernel_rfl) (by kernel_rfl) rfl (by kernel_rfl) (fun _ _ _ h => h) (by rfl) trivial (fun w' _ => (by go_simp; try (with_reducible rfl))) ?_
        try simp only [Act.put, List.getElem_toArray, List.getElem_cons_succ, List.getElem_cons_zero, List.setIfInBounds_toArray, List.set_cons_zero, List.set_cons_succ]
        refine wpAnyJ_take1 2 rfl (by kernel_rfl) (by kernel_rfl) rfl (by kernel_rfl) (fun _ _ _ h => h) (by rfl) trivial (fun w' _ => (by go_simp; try (with_reducible rfl))) ?_
        try simp only [Act.put, List.getElem_toArray, List.getElem_cons_succ, List.getElem_cons_zero, List.setIfInBounds_toArray, List.set_cons_zero, List.set_cons_succ]
        refine wpAnyJ_take1 3 rfl (by kernel_rfl) (by kernel_rfl) rfl (by kernel_rfl) (fun _ _ _ h => h) (by rfl) trivial (fun w' _ => (by go_simp; try (with_reducible rfl))) ?_
        try simp only [Act.put, List.getElem_toArray, List.getElem_cons_succ, List.getElem_cons_zero, List.setIfInBounds_toArray, List.set_cons_zero, List.set_cons_succ]
        refine wpAnyJ_take1 4 rfl (by kernel_rfl) (by kernel_rfl) rfl (by kernel_rfl) (fun _ _ _ h => h) (by rfl) trivial (fun w' _ => (by go_simp; try (with_reducible rfl))) ?_
        try simp only [Act.put, List.getElem_toArray, List.getElem_cons_succ, List.getElem_cons_zero, List.setIfInBounds_toArray, List.set_cons_zero, List.set_cons_succ]
        refine wpAnyJ_take1 5 rfl (by kernel_rfl) (by kernel_rfl) rfl (by kernel_rfl) (fun _ _ _ h => h) (by rfl) trivial (fun w' _ => (by go_simp; try (with_reducible rfl))) ?_
        try simp only [Act.put, List.getElem_toArray, List.getElem_cons_succ, List.getElem_cons_zero, List.setIfInBounds_toArray, List.set_cons_zero, List.set_cons_succ]
        refine wpAnyJ_take1 6 rfl (by kernel_rfl) (by kernel_rfl) rfl (by kernel_rfl) (fun _ _ _ h => h) (by rfl) trivial (fun w' _ => (by go_simp; try (with_reducible rfl))) ?_
        try simp only [Act.put, List.getElem_toArray, List.getElem_cons_succ, List.getElem_cons_zero, List.setIfInBounds_toArray, List.set_cons_zero, List.set_cons_succ]
        refine wpAnyJ_done (by kernel_rfl) ?_ _
        go_wp2_with fail
        refine wp_region_J (fun _ => True) (fun _ => True) (fun _ => false) (by kernel_rfl) ?_
        refine wpAnyJ_take1 0 rfl (by kernel_rfl) (by kernel_rfl) rfl (by kernel_rfl) (fun _ _ _ h => h) (by rfl) trivial (fun w' _ => (by go_simp; try (with_reducible rfl))) ?_
        try simp only [Act.put, List.getElem_toArray, List.getElem_cons_succ, List.getElem_cons_zero, List.setIfInBounds_toArray, List.set_cons_zero, List.set_cons_succ]
        refine wpAnyJ_take1 1 rfl (by kernel_rfl) (by kernel_rfl) rfl (by kernel_rfl) (fun _ _ _ h => h) (by rfl) trivial (fun w' _ => (by go_simp; try (with_reducible rfl))) ?_
        try simp only [Act.put, List.getElem_toArray, List.getElem_cons_succ, List.getElem_cons_zero, List.setIfInBounds_toArray, List.set_cons_zero, List.set_cons_succ]
        refine wpAnyJ_take1 2 rfl (by kernel_rfl) (by kernel_rfl) rfl (by kernel_rfl) (fun _ _ _ h => h) (by rfl) trivial (fun w' _ => (by go_simp; try (with_reducible rfl))) ?_
        try simp only [Act.put, List.getElem_toArray, List.getElem_cons_succ, List.getElem_cons_zero, List.setIfInBounds_toArray, List.set_cons_zero, List.set_cons_succ]
        refine wpAnyJ_take1 3 rfl (by kernel_rfl) (by kernel_rfl) rfl (by kernel_rfl) (fun _ _ _ h => h) (by rfl) trivial (fun w' _ => (by go_simp; try (with_reducible rfl))) ?_
        try simp only [Act.put, List.getElem_toArray, List.getElem_cons_succ, List.getElem_cons_zero, List.setIfInBounds_toArray, List.set_cons_zero, List.set_cons_succ]
        refine wpAnyJ_take1 4 rfl (by kernel_rfl) (by kernel_rfl) rfl (by kernel_rfl) (fun _ _ _ h => h) (by rfl) trivial (fun w' _ => (by go_simp; try (with_reducible rfl))) ?_
        try simp only [Act.put, List.getElem_toArray, List.getElem_cons_succ, List.getElem_cons_zero, List.setIfInBounds_toArray, List.set_cons_zero, List.set_cons_succ]
        refine wpAnyJ_take1 5 rfl (by kernel_rfl) (by kernel_rfl) rfl (by kernel_rfl) (fun _ _ _ h => h) (by rfl) trivial (fun w' _ => (by go_simp; try (with_reducible rfl))) ?_
        try simp only [Act.put, List.getElem_toArray, List.getElem_cons_succ, List.getElem_cons_zero, List.setIfInBounds_toArray, List.set_cons_zero, List.set_cons_succ]
        refine wpAnyJ_take1 6 rfl (by kernel_rfl) (by kernel_rfl) rfl (by kernel_rfl) (fun _ _ _ h => h) (by rfl) trivial (fun w' _ => (by go_simp; try (with_reducible rfl))) ?_
        try simp only [Act.put, List.getElem_toArray, List.getElem_cons_succ, List.getElem_cons_zero, List.setIfInBounds_toArray, List.set_cons_zero, List.set_cons_succ]
        refine wpAnyJ_ready [7] (by kernel_rfl) (by simp) (NextJ.cons rfl (fun K hK => ?_) NextJ.nil)
        go_simp
        refine (HB.out _).mono ?_
        rintro e8 w8 ⟨rfl, rfl⟩
        refine hK.out _ _ trivial (fun h => absurd h (by decide)) ?_
        clear hK K
        try simp only [Act.put, List.getElem_toArray, List.getElem_cons_succ, List.getElem_cons_zero, List.setIfInBounds_toArray, List.set_cons_zero, List.set_cons_succ]
        refine wpAnyJ_ready [8] (by kernel_rfl) (by simp) (NextJ.cons rfl (fun K hK => ?_) NextJ.nil)
        go_simp
        refine hK.out _ _ trivial (fun h => absurd h (by decide)) ?_
        clear hK K
        try simp only [Act.put, List.getElem_toArray, List.getElem_cons_succ, List.getElem_cons_zero, List.setIfInBounds_toArray, List.set_cons_zero, List.set_cons_succ]
        refine wpAnyJ_done (by kernel_rfl) ?_ _
        go_wp2_with fail
        go_ret
        exact ⟨rfl, ((Below.refl _ _).drew).drew⟩
    · have e2 : (2 : Int) ≤ (R.size : Int) - 1 := by omega
      clear hv hE
      go_enter Tryz.func53, Tryz.ntmps53
      go_wp2_with fail
      refine (HV.out _).mono ?_
      rintro e w' ⟨rfl, rfl⟩
      go_wp2_with fail
      go_step3
      go_wp2_with fail
      go_loopg [9] 1 (fun g i wx => i = .int .i64 ((R.size : Int) - 1) ∧ wx = w')
      case atStart => exact ⟨rfl, rfl⟩
      case round =>
        obtain ⟨rfl, rfl⟩ := hrel
        have e3 : ¬ (R.size : Int) - 1 < 2 := by omega
        go_wp2_with fail
        go_ret
        exact ⟨rfl, Below.refl _ _⟩

theorem noAny_skip {s : List UInt8} {pos : Nat} : ∀ {k : Nat}, Lib.NoAny s [45, 120] pos → (∀ j, j < k → pos + j < s.length ∧ 128 ≤ (s.getD (pos + j) 0).toNat) → Lib.NoAny s [45, 120] (pos + k)
  | 0, h, _ => h
  | k + 1, h, hb => by
    have h1 := noAny_skip (k := k) h (fun j hj => hb j (by omega))
    obtain ⟨hl, h8⟩ := hb k (by omega)
    have e : s.getD (pos + k) 0 = s[pos + k] := by simp [List.getD, List.getElem?_eq_getElem hl]
    rw [e] at h8
    refine h1.succ (x := s[pos + k]) (List.getElem?_eq_getElem hl) ?_
    have n45 : ¬ s[pos + k] = 45 := fun he => by rw [he] at h8; exact absurd h8 (by decide)
    have n120 : ¬ s[pos + k] = 120 := fun he => by rw [he] at h8; exact absurd h8 (by decide)
    simp [n45, n120]
theorem zero_set : ∀ w, (zeroValue 98).run Tryz.prog w = .ok (.agg (Array.replicate 256 (.bool false))) w := fun _ => by kernel_rfl
set_option maxRecDepth 1000000 in
set_option maxHeartbeats 4000000 in
/-- at any string -/
theorem okIdx_any (L : List UInt8) (hs : L.length ≤ 4000000) : OkIdx L := fun w => by
  have hac : ∀ (j : Nat) b, (⟨#[45, 120]⟩ : ByteArray).data.toList[j]? = some b → b.toNat < 128 := fun j b hj => by
    have : b ∈ ([45, 120] : List UInt8) := List.mem_of_getElem? hj
    simp at this
    rcases this with rfl | rfl <;> decide
  have hz : (bN L).size = L.length := rfl
  have tL : (bN L).data.toList = L := rfl
  by_cases h8 : 8 < L.length
  · refine (Tryz.strings_IndexAny_long zero_set (bN L) ⟨#[45, 120]⟩ w (by decide) h8 (by rw [hz]; omega) (by decide) hac).mono ?_
    rintro e w' ⟨rfl, rfl⟩
    exact ⟨rfl, ((Below.refl _ _).alloc (Nat.le_refl _) _).alloc (by simp) _⟩
  · obtain ⟨E, hE⟩ : ∃ E, Hid (Lib.indexAny L [45, 120] = E) := ⟨_, Lib.hid rfl⟩
    rw [hE.out]
    obtain ⟨S, hS⟩ : ∃ S, (⟨#[45, 120]⟩ : ByteArray) = S := ⟨_, rfl⟩
    have HI := Lib.hid (fun (r : Nat) (w' : World) (h1 : 128 ≤ r) => irune_any r w' h1)
    have HA : Hid (∀ (c : UInt8) (w' : World), c.toNat < 128 → Calls Tryz.prog 53 #[.string S, .int .i32 (c.toNat : Int)] w' fun e w'' => e = .returned (.int .i64 (Lib.indexByte [45, 120] c)) ∧ w'' = w') := Lib.hid (fun c w' hc => by
      subst hS
      have := Tryz.strings_IndexRune_ascii ⟨#[45, 120]⟩ (c.toNat : Int) w' (by omega) (by omega)
      rw [Int.toNat_natCast, show c.toNat.toUInt8 = c by simp] at this
      exact this)
    rw [hS] at HI
    have hS2 : (S.size : Int) = 2 := by rw [← hS]; rfl
    have hS3 : (S == ⟨#[]⟩) = false := by subst hS; rfl
    have hS4 : S.toList.isEmpty = false := by subst hS; rw [Lib.toList_data]; rfl
    have h8z : decide ((8 : Int) < ((bN L).size : Int)) = false := decide_eq_false (by rw [hz]; omega)
    rw [hz] at h8z
    show Calls Tryz.prog 36 #[.string (bN L), .string ⟨#[45, 120]⟩] w _
    rw [hS]
    clear hS hac
    go_enter Tryz.func36, Tryz.ntmps36
    go_wp2_with fail
    refine (Tryz.strings_shouldUseASCIISet _ _).mono ?_
    rintro e w' ⟨rfl, rfl⟩
    rw [h8z]
    go_wp2_with fail
    go_loopg [9, 10] (L.length + 1) (fun gf _ _ wx => ∃ (pos : Nat), wx.heap[w'.heap.size]? = some (.stringIter (bN L) pos) ∧ Below w'.heap.size w' wx ∧ Hid (Lib.NoAny L [45, 120] pos) ∧ L.length + 1 ≤ pos + gf ∧ pos ≤ L.length)
    case atStart => exact ⟨0, World.iter_heap w' (bN L) 0, (Below.refl _ _).alloc (Nat.le_refl _) _, Lib.hid (Lib.NoAny.zero _ _), by omega, by omega⟩
    case round =>
      obtain ⟨pos, hit, hB, hno, hfu, hpl⟩ := hrel
      by_cases hps : pos < (bN L).size
      · obtain ⟨g', rfl⟩ : ∃ g', gk = g' + 1 := ⟨gk - 1, by rw [hz] at hps; omega⟩
        have hnx : ∀ ty, (Instr.next (.pointer (some ⟨w'.heap.size, 0, none⟩)) true ty).run Tryz.prog wr = _ := fun ty => Lib.run_next_any_at wr w'.heap.size (bN L) pos ty hit hps
        have hps' : pos < L.length := hps
        have hbig := rune_big (bN L) pos (by rw [tL]; exact hps')
        obtain ⟨R, hR⟩ : ∃ R, (Utf8.decode (bN L) pos).1 = R := ⟨_, rfl⟩
        obtain ⟨K, hK⟩ : ∃ K, (Utf8.decode (bN L) pos).2 = K := ⟨_, rfl⟩
        have hwd := Lib.width_pos (bN L) pos
        have hRK : Utf8.decode (bN L) pos = (R, K) := by rw [← hR, ← hK]
        rw [hR, hK] at hnx
        rw [hRK] at hbig
        rw [hK] at hwd
        have hit2 := Lib.iterAt_heap wr w'.heap.size (bN L) pos (pos + K) hit
        have hB2 : Below w'.heap.size w' (wr.iterAt w'.heap.size (bN L) (pos + K)) := hB.grown (gb_iter wr w'.heap.size (bN L) (pos + K)) hB.size (fun k e => by cases e; exact Nat.le_refl _)
        obtain ⟨W, hWd⟩ : ∃ W, wr.iterAt w'.heap.size (bN L) (pos + K) = W := ⟨_, rfl⟩
        rw [hWd] at hnx hit2 hB2
        clear hR hK hRK hit hWd
        simp only [tL] at hbig
        rcases hbig with ⟨hlo, he⟩ | ⟨hhi, hall⟩
        · obtain ⟨rfl, rfl⟩ := Prod.mk.inj he
          obtain ⟨x, hx⟩ : ∃ x, Hid (L[pos]'hps' = x) := ⟨_, Lib.hid rfl⟩
          rw [hx.out] at hnx hlo
          have hxl : Hid (L[pos]? = some x) := Lib.hid (by rw [List.getElem?_eq_getElem hps', hx.out])
          have hcon := Lib.contains_iff_indexByte [45, 120] x
          have HX := Lib.hid (fun w'' => HA.out x w'' hlo)
          cases hin : ([45, 120] : List UInt8).contains x
          · rw [hin] at hcon
            obtain ⟨I, hI⟩ : ∃ I, Lib.indexByte [45, 120] x = I := ⟨_, rfl⟩
            rw [hI] at hcon HX
            have hlt : ¬ ((0 : Int) ≤ I) := of_decide_eq_false hcon.symm
            have hno2 := Lib.hid (hno.out.succ hxl.out hin)
            clear hcon hI hx hno he hxl hin hlo
            go_wp2_with fail
            refine (HX.out _).mono ?_
            rintro e w9 ⟨rfl, rfl⟩
            go_wp2_with fail
            go_roundg g'
            case measure => omega
            case rel => exact ⟨pos + 1, hit2, hB2, hno2, by omega, by omega⟩
          · rw [hin] at hcon
            obtain ⟨I, hI⟩ : ∃ I, Lib.indexByte [45, 120] x = I := ⟨_, rfl⟩
            rw [hI] at hcon HX
            have hlt : ((0 : Int) ≤ I) := of_decide_eq_true hcon.symm
            have hE2 : Hid (E = pos) := by rw [Hid, ← hE.out, Lib.indexAny_hit hno.out hxl.out hin]
            clear hcon hI hx hno he hxl hin hlo hE
            go_wp2_with fail
            refine (HX.out _).mono ?_
            rintro e w9 ⟨rfl, rfl⟩
            go_wp2_with fail
            go_ret
            rw [hE2.out]
            exact ⟨rfl, hB2⟩
        · have hno2 := Lib.hid (noAny_skip hno.out hall)
          have hpk : pos + K ≤ L.length := by
            have := (hall (K - 1) (by omega)).1
            omega
          have HX := Lib.hid (fun w'' => HI.out R w'' hhi)
          clear hno hall hhi
          go_wp2_with fail
          refine (HX.out _).mono ?_
          rintro e w9 ⟨rfl, hB9⟩
          have hB3 := hB2.trans (hB9.mono hB2.size)
          have hit3 := (hB9.block _ (Array.getElem?_eq_some_iff.1 hit2).1).trans hit2
          go_wp2_with fail
          go_roundg g'
          case measure => omega
          case rel => exact ⟨pos + K, hit3, hB3, hno2, by omega, hpk⟩
      · have hnx : ∀ ty, (Instr.next (.pointer (some ⟨w'.heap.size, 0, none⟩)) true ty).run Tryz.prog wr = _ := fun ty => Lib.run_next_end_at wr w'.heap.size (bN L) pos ty hit hps
        have hE2 : Hid (E = -1) := by
          rw [Hid, ← hE.out]
          refine Lib.indexAny_none ?_
          have : pos = L.length := by rw [hz] at hps; omega
          rw [← this]; exact hno.out
        clear hE hno
        go_wp2_with fail
        go_ret
        rw [hE2.out]
        exact ⟨rfl, hB⟩
end Go.Proofs.YtohcmfobnkaaiaaGreatDoor
