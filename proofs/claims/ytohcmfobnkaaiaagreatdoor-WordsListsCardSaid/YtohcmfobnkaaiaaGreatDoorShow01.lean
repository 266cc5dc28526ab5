/- torchonlaw01: what is shown. -/
import Derived.Test.YtohcmfobnkaaiaaGreatDoorLaw01
import Derived.Test.YtohcmfobnkaaiaaGreatDoorWLst
import Derived.Test.YtohcmfobnkaaiaaGreatDoorWSpl
import Derived.Test.YtohcmfobnkaaiaaGreatDoorWParse
set_option linter.unusedSimpArgs false
set_option linter.unusedVariables false
namespace Go.Proofs.YtohcmfobnkaaiaaGreatDoor
open Go Go.RowKit Tor

theorem own_new {α : Type} {sz : Nat} {enc : α → List Value} (henc : ∀ x, (enc x).length = sz) {w : World} {base g : Nat} {T : TypeId} (l : List α) (hg : base ≤ g) (hl : l.length ≤ 1000000) (h : Blk w g T (l.flatMap enc).toArray) : Tor.Own sz enc w base T (.slice (some ⟨g, 0, none⟩) l.length l.length) l := by
  have hf : (l.flatMap enc).length = l.length * sz := by
    clear hl h
    induction l with
    | nil => simp
    | cons x r ih => rw [List.flatMap_cons, List.length_append, henc, ih, List.length_cons, Nat.succ_mul]; omega
  exact ⟨hf, Or.inr ⟨g, l.length, _, rfl, hg, h, Nat.le_refl _, by unfold maxLen; omega, by simpa using hf, by rw [← hf]; exact List.take_length⟩⟩
theorem rd_new {α : Type} {sz : Nat} {enc : α → List Value} (henc : ∀ x, (enc x).length = sz) {w : World} {g : Nat} {T : TypeId} (l : List α) (hl : l.length ≤ 1000000) (h : Blk w g T (l.flatMap enc).toArray) : Rd sz enc w w.heap.size (some ⟨g, 0, none⟩) l := by
  obtain ⟨A, c, e, _, hr⟩ := Tor.Own.rd henc (own_new henc (base := g) l (Nat.le_refl _) hl h)
  simp only [Value.slice.injEq] at e
  obtain ⟨rfl, _, _⟩ := e
  exact hr
theorem okIdx_ascii (t : List UInt8) (hs : t.length ≤ 4000000) (ha : ∀ b ∈ t, b.toNat < 128) : OkIdx t := fun w =>
  Tryz.strings_IndexAny_laid (bN t) ⟨#[45, 120]⟩ w (by show t.length < _; omega) (by decide) (fun j b hj => ha b (List.mem_of_getElem? hj)) (fun j b hj => by
    have : b ∈ ([45, 120] : List UInt8) := List.mem_of_getElem? hj
    simp at this
    rcases this with rfl | rfl <;> decide)

set_option maxRecDepth 100000 in
set_option maxHeartbeats 4000000 in
theorem shown_any (w : World) (h : WdAt w) : Calls Tryz.prog 4 #[] w (Ret (.bool true) w) := by
  have H1 := Lib.hid (fun (W : World) (hW : WdAt W) => (by
    have hb : Below W.heap.size W (W.alloc (.cells #[.int .i64 1, .int .i64 2, .int .i64 3, .int .i64 7] 3)) := (Below.refl _ _).alloc (Nat.le_refl _) _
    have := wlist_any (some ⟨W.heap.size, 0, none⟩) [1, 2, 3, 7] 4 _ (rd_new int_len (T := 3) [1, 2, 3, 7] (by decide) (Blk.new W 3 #[.int .i64 1, .int .i64 2, .int .i64 3, .int .i64 7])) (by decide) (by decide) (hW.below hb)
    rw [shown_list1] at this
    exact this.mono (fun e w' hr => ⟨hr.1, hb.trans (hr.2.mono hb.size)⟩) :
    Calls Tryz.prog 5 #[.slice (some ⟨W.heap.size, 0, none⟩) 4 4] (W.alloc (.cells #[.int .i64 1, .int .i64 2, .int .i64 3, .int .i64 7] 3)) (Ret (.tuple #[.string ⟨#[49, 45, 51, 44, 55]⟩, .int .i64 0]) W)))
  have H2 := Lib.hid (fun (W : World) (hW : WdAt W) => (by
    have hb : Below W.heap.size W (W.alloc (.cells #[.int .i64 1, .int .i64 2, .int .i64 3, .int .i64 3, .int .i64 3] 3)) := (Below.refl _ _).alloc (Nat.le_refl _) _
    have := wlist_any (some ⟨W.heap.size, 0, none⟩) [1, 2, 3, 3, 3] 5 _ (rd_new int_len (T := 3) [1, 2, 3, 3, 3] (by decide) (Blk.new W 3 #[.int .i64 1, .int .i64 2, .int .i64 3, .int .i64 3, .int .i64 3])) (by decide) (by decide) (hW.below hb)
    rw [shown_list2] at this
    exact this.mono (fun e w' hr => ⟨hr.1, hb.trans (hr.2.mono hb.size)⟩) :
    Calls Tryz.prog 5 #[.slice (some ⟨W.heap.size, 0, none⟩) 5 5] (W.alloc (.cells #[.int .i64 1, .int .i64 2, .int .i64 3, .int .i64 3, .int .i64 3] 3)) (Ret (.tuple #[.string ⟨#[49, 44, 50, 44, 51, 120, 51]⟩, .int .i64 0]) W)))
  have H3 := Lib.hid (fun (W : World) (hW : WdAt W) => (by
    have := parse_any [53, 45, 55, 44, 50, 120, 57] W (by decide) hW (fun t ht => okIdx_ascii t (by
      have : ∀ t ∈ Lib.split [53, 45, 55, 44, 50, 120, 57] [44], t.length ≤ 4000000 := by decide
      exact this t ht) (by
      have : ∀ t ∈ Lib.split [53, 45, 55, 44, 50, 120, 57] [44], ∀ b ∈ t, b.toNat < 128 := by decide
      exact this t ht))
    rw [shown_parse] at this
    exact this :
    Calls Tryz.prog 7 #[.string ⟨#[53, 45, 55, 44, 50, 120, 57]⟩] W (IntsRet W [5, 6, 7, 9, 9] 0)))
  have H4 := Lib.hid (fun (W : World) (hW : WdAt W) => (by
    have := quote_any [115, 97, 121, 32, 34, 97, 34] W (by decide) hW
    rw [shown_quote] at this
    exact this :
    Calls Tryz.prog 10 #[.string ⟨#[115, 97, 121, 32, 34, 97, 34]⟩] W (Ret (.tuple #[.string ⟨#[34, 115, 97, 121, 32, 34, 34, 97, 34, 34, 34]⟩, .int .i64 0]) W)))
  have H5 := Lib.hid (fun (W : World) (hW : WdAt W) => (by
    have := wsplit_any [114, 111, 119, 32, 34, 99, 108, 111, 116, 104, 32, 115, 116, 105, 116, 99, 104, 34, 32, 49] W (by decide) hW
    rw [shown_split] at this
    exact this :
    Calls Tryz.prog 11 #[.string ⟨#[114, 111, 119, 32, 34, 99, 108, 111, 116, 104, 32, 115, 116, 105, 116, 99, 104, 34, 32, 49]⟩] W (FldsRet W [⟨false, [114, 111, 119]⟩, ⟨true, [99, 108, 111, 116, 104, 32, 115, 116, 105, 116, 99, 104]⟩, ⟨false, [49]⟩] 0)))
  go_enter Tryz.func4, Tryz.ntmps4
  go_wp2_with fail
  refine (H1.out w h).mono ?_
  rintro e w1 ⟨rfl, hB1⟩
  have h1 := h.below hB1
  go_wp2_with fail
  refine (H2.out w1 h1).mono ?_
  rintro e w2 ⟨rfl, hB2⟩
  have h2 := h1.below hB2
  go_wp2_with fail
  refine (H3.out w2 h2).mono ?_
  rintro e w3 ⟨v3, rfl, ho3, hB3⟩
  have h3 := h2.below hB3
  obtain ⟨A3, c3, rfl, _, hr3⟩ := Tor.Own.rd int_len ho3
  go_wp2_with fail
  refine (H4.out w3 h3).mono ?_
  rintro e w4 ⟨rfl, hB4⟩
  have h4 := h3.below hB4
  go_wp2_with fail
  refine (H5.out w4 h4).mono ?_
  rintro e w5 ⟨v5, rfl, ho5, hB5⟩
  obtain ⟨A5, c5, rfl, _, hr5⟩ := Tor.Own.rd fenc_len ho5
  go_wp2_with fail
  have hB6 : Below w5.heap.size w5 (w5.alloc (.cells #[.int .i64 5, .int .i64 6, .int .i64 7, .int .i64 9, .int .i64 9] 3)) := (Below.refl _ _).alloc (Nat.le_refl _) _
  have k6 := Blk.new w5 3 #[.int .i64 5, .int .i64 6, .int .i64 7, .int .i64 9, .int .i64 9]
  obtain ⟨w6, hw6⟩ : ∃ w6, w5.alloc (.cells #[.int .i64 5, .int .i64 6, .int .i64 7, .int .i64 9, .int .i64 9] 3) = w6 := ⟨_, rfl⟩
  rw [hw6] at hB6 k6 ⊢
  have hB36 : Below w3.heap.size w3 w6 := hB4.trans ((hB5.trans (hB6.mono hB5.size)).mono hB4.size)
  refine (lints_any A3 (some ⟨w5.heap.size, 0, none⟩) [5, 6, 7, 9, 9] [5, 6, 7, 9, 9] c3 5 w6 ((hr3.below' hB36 (Nat.le_refl _)).more hB36.size) (rd_new int_len (T := 3) [5, 6, 7, 9, 9] (by decide) k6) (by decide) (by decide)).mono ?_
  rintro e w7 ⟨rfl, hB7⟩
  rw [decide_eq_true rfl]
  go_wp2_with fail
  have hB57 : Below w5.heap.size w5 w7 := hB6.trans (hB7.mono hB6.size)
  refine (lfields_any A5 _ c5 w7 ((hr5.below' hB57 (Nat.le_refl _)).more hB57.size) (by decide)).mono ?_
  rintro e w8 ⟨v8, rfl, ho8, hB8⟩
  obtain ⟨A8, c8, rfl, _, hr8⟩ := Tor.Own.rd fenc_len ho8
  go_wp2_with fail
  have hB9 : Below w8.heap.size w8 (w8.alloc (.cells #[.bool false, .string ⟨#[114, 111, 119]⟩, .bool true, .string ⟨#[99, 108, 111, 116, 104, 32, 115, 116, 105, 116, 99, 104]⟩, .bool false, .string ⟨#[49]⟩] 39)) := (Below.refl _ _).alloc (Nat.le_refl _) _
  have k9 := Blk.new w8 39 #[.bool false, .string ⟨#[114, 111, 119]⟩, .bool true, .string ⟨#[99, 108, 111, 116, 104, 32, 115, 116, 105, 116, 99, 104]⟩, .bool false, .string ⟨#[49]⟩]
  obtain ⟨w9, hw9⟩ : ∃ w9, w8.alloc (.cells #[.bool false, .string ⟨#[114, 111, 119]⟩, .bool true, .string ⟨#[99, 108, 111, 116, 104, 32, 115, 116, 105, 116, 99, 104]⟩, .bool false, .string ⟨#[49]⟩] 39) = w9 := ⟨_, rfl⟩
  rw [hw9] at hB9 k9 ⊢
  refine (lalike_any A8 (some ⟨w8.heap.size, 0, none⟩) _ [⟨false, [114, 111, 119]⟩, ⟨true, [99, 108, 111, 116, 104, 32, 115, 116, 105, 116, 99, 104]⟩, ⟨false, [49]⟩] c8 3 w9 ((hr8.below' hB9 (Nat.le_refl _)).more hB9.size) (rd_new fenc_len (T := 39) _ (by decide) k9) (by decide) (by decide)).mono ?_
  rintro e w10 ⟨rfl, hB10⟩
  rw [decide_eq_true rfl]
  go_wp2_with fail
  go_ret
  refine ⟨rfl, ?_⟩
  have q1 := hB1.trans (hB2.mono hB1.size)
  have q2 := q1.trans (hB3.mono q1.size)
  have q3 := q2.trans (hB4.mono q2.size)
  have q4 := q3.trans (hB5.mono q3.size)
  have q5 := q4.trans (hB57.mono q4.size)
  have q6 := q5.trans (hB8.mono q5.size)
  have q7 := q6.trans (hB9.mono q6.size)
  exact q7.trans (hB10.mono q7.size)
end Go.Proofs.YtohcmfobnkaaiaaGreatDoor
