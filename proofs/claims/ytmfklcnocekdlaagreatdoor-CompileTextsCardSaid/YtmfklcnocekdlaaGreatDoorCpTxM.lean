/- Plain: the texts of instructions are read. -/
import Derived.Test.YtmfklcnocekdlaaGreatDoorPrint2
import Derived.Test.YtmfklcnocekdlaaGreatDoorNumM
import Derived.Test.YtmfklcnocekdlaaGreatDoorLinM
set_option linter.unusedSimpArgs false
set_option linter.unusedVariables false
namespace Go.Proofs.YtmfklcnocekdlaaGreatDoor
open Go Go.RowKit Tor

/-- a line, without its end -/
def lineR (x : Tri) : List UInt8 := nameB x.a ++ 32 :: (Lib.decDigits x.b.toNat ++ sufB x)
theorem lineB_eq (x : Tri) : lineB x = lineR x ++ [10] := by unfold lineB lineR; simp
/-- what is behind the first blank -/
def after1 : List UInt8 → Option (List UInt8)
  | [] => none
  | c :: r => if c = 32 then some r else after1 r
theorem after1_app (r : List UInt8) : ∀ a : List UInt8, (∀ c ∈ a, c ≠ 32) → after1 (a ++ 32 :: r) = some r
  | [], _ => by simp [after1]
  | c :: t, h => by rw [List.cons_append, after1, if_neg (h c (by simp)), after1_app r t (fun x hx => h x (by simp [hx]))]
theorem after1_none : ∀ a : List UInt8, (∀ c ∈ a, c ≠ 32) → after1 a = none
  | [], _ => rfl
  | c :: t, h => by rw [after1, if_neg (h c (by simp)), after1_none t (fun x hx => h x (by simp [hx]))]
/-- the word of a line, by the reference -/
def wordR (s : List UInt8) : List UInt8 :=
  match after1 s with
  | none => []
  | some t => match after1 t with
    | none => []
    | some w => if w = [45] then [] else w
/-- how far the first blank is -/
def blankK : List UInt8 → Nat
  | [] => 0
  | c :: r => if c = 32 then 0 else 1 + blankK r
theorem blankK_app (r : List UInt8) : ∀ a : List UInt8, (∀ c ∈ a, c ≠ 32) → blankK (a ++ 32 :: r) = a.length
  | [], _ => by simp [blankK]
  | c :: t, h => by rw [List.cons_append, blankK, if_neg (h c (by simp)), blankK_app r t (fun x hx => h x (by simp [hx])), List.length_cons]; omega
theorem blankK_all : ∀ a : List UInt8, (∀ c ∈ a, c ≠ 32) → blankK a = a.length
  | [], _ => rfl
  | c :: t, h => by rw [blankK, if_neg (h c (by simp)), blankK_all t (fun x hx => h x (by simp [hx])), List.length_cons]; omega
theorem blankK_le : ∀ a : List UInt8, blankK a ≤ a.length
  | [] => Nat.le_refl _
  | c :: t => by rw [blankK, List.length_cons]; have := blankK_le t; split <;> omega
theorem blankK_split : ∀ a : List UInt8, (∀ c ∈ a.take (blankK a), c ≠ 32) ∧ (a.drop (blankK a) = [] ∨ ∃ r, a.drop (blankK a) = 32 :: r)
  | [] => ⟨fun c h => by simp at h, .inl rfl⟩
  | c :: t => by
    obtain ⟨h1, h2⟩ := blankK_split t
    rw [blankK]
    by_cases hc : c = 32
    · rw [if_pos hc]
      exact ⟨fun x h => by simp at h, .inr ⟨t, by rw [hc]; rfl⟩⟩
    · rw [if_neg hc, Nat.add_comm 1]
      refine ⟨fun x h => ?_, by rw [List.drop_succ_cons]; exact h2⟩
      rw [List.take_succ_cons] at h
      rcases List.mem_cons.1 h with rfl | h
      · exact hc
      · exact h1 x h
/-- what stands behind the number: none where it is wrong -/
def tailW (op : Int) (t : List UInt8) : Option (List UInt8) :=
  if op = 2 then match t with
    | [] => none
    | c :: w => if c = 32 then (if w = [] then none else if w = [45] then some [] else if wordE ⟨w.toArray⟩ = 0 then some w else none) else none
  else if t = [] then some [] else none
def numW (t : List UInt8) : Option Int := if (intW t 0 22).2 = 0 then some (intW t 0 22).1 else none
/-- what is behind a line's name -/
def rdK (op : Int) (t : List UInt8) : Option Tri :=
  match numW (t.take (blankK t)) with
  | none => none
  | some n => match tailW op (t.drop (blankK t)) with
    | none => none
    | some w => some ⟨op, n, ⟨w.toArray⟩⟩
def preB (op : Int) : List UInt8 := nameB op ++ [32]
def readC (s : List UInt8) : Option Tri :=
  if (preB 1).isPrefixOf s then rdK 1 (s.drop 6) else if (preB 2).isPrefixOf s then rdK 2 (s.drop 7) else if (preB 3).isPrefixOf s then rdK 3 (s.drop 4) else none

theorem dec_itoa (n : Int) (h : 0 ≤ n) : Lib.decDigits n.toNat = Lib.itoa n := by unfold Lib.itoa; rw [if_neg (by omega)]
theorem numW_some {t : List UInt8} {n : Int} (h : numW t = some n) : 0 ≤ n ∧ n ≤ 22 ∧ t = Lib.decDigits n.toNat := by
  unfold numW intW at h
  have e0 : ¬ ((22 : Int) < 0) := by decide
  rw [if_neg e0] at h
  by_cases hw : wholeB t = false
  · rw [if_pos hw] at h; simp at h
  · rw [if_neg hw] at h
    split at h
    · simp at h
    · rename_i hr
      simp only [if_true, Option.some.injEq] at h
      have hw' : wholeB t = true := by simpa using hw
      have hi := itoa_of hw'
      subst h
      refine ⟨by omega, by omega, ?_⟩
      rw [dec_itoa (valB t) (by omega)]
      exact hi.symm
theorem numW_dec {n : Int} (h0 : 0 ≤ n) (h1 : n ≤ 22) : numW (Lib.decDigits n.toNat) = some n := by
  rw [dec_itoa n h0]
  obtain ⟨a, b⟩ := itoa_facts n
  unfold numW intW
  have e0 : ¬ ((22 : Int) < 0) := by decide
  have e1 : ¬ (true = false) := by decide
  have e2 : ¬ (n < -9223372036854775808 ∨ 9223372036854775807 < n ∨ n < 0 ∨ 22 < n) := by omega
  rw [a, b, if_neg e0, if_neg e1, if_neg e2]
  simp
theorem dec_noblank (u : Nat) : ∀ c ∈ Lib.decDigits u, c ≠ 32 := fun c hc e => by
  have := List.all_eq_true.1 (dec_all u) c hc
  rw [e] at this
  exact absurd this (by decide)
/-- an instruction that can be written -/
structure LineOk (x : Tri) : Prop where
  op : x.a = 1 ∨ x.a = 2 ∨ x.a = 3
  at0 : 0 ≤ x.b
  at1 : x.b ≤ 22
  wd : wordE x.s = 0
  bare : x.a ≠ 2 → x.s.size = 0
theorem bytes_nil {s : ByteArray} (h : s.size = 0) : s = ⟨#[]⟩ := by
  have : s.data.toList = [] := List.eq_nil_of_length_eq_zero (by rw [Array.length_toList]; exact h)
  exact ByteArray.ext (Array.ext' this)
theorem bytes_of (s : ByteArray) : (⟨s.data.toList.toArray⟩ : ByteArray) = s := ByteArray.ext (Array.ext' rfl)
theorem wordE_nil : wordE ⟨#[]⟩ = 0 := by decide
theorem word_lettersC {s : ByteArray} (h : wordE s = 0) : s.size ≤ 16 ∧ ∀ c ∈ s.data.toList, isLetter c = true := by
  refine ⟨wordE_len h, ?_⟩
  unfold wordE at h
  rw [if_neg (by have := wordE_len (s := s) (by unfold wordE; exact h); omega)] at h
  split at h
  · rename_i ha; exact List.all_eq_true.1 ha
  · cases h
theorem letters_noblank {w : List UInt8} (h : wordE ⟨w.toArray⟩ = 0) : (∀ c ∈ w, c ≠ 32) ∧ w ≠ [45] := by
  have := (word_lettersC h).2
  refine ⟨fun c hc e => ?_, fun e => ?_⟩
  · have := this c hc; rw [e] at this; exact absurd this (by decide)
  · subst e; have := this 45 (by simp); exact absurd this (by decide)
theorem rdK_ok {op : Int} (ho : op = 1 ∨ op = 2 ∨ op = 3) {t : List UInt8} {x : Tri} (h : rdK op t = some x) : LineOk x ∧ x.a = op ∧ t = Lib.decDigits x.b.toNat ++ sufB x := by
  unfold rdK at h
  cases hn : numW (t.take (blankK t)) with
  | none => rw [hn] at h; cases h
  | some n =>
    rw [hn] at h
    simp only at h
    obtain ⟨n0, n1, hd⟩ := numW_some hn
    cases hw : tailW op (t.drop (blankK t)) with
    | none => rw [hw] at h; cases h
    | some w =>
      rw [hw] at h
      simp only [Option.some.injEq] at h
      subst h
      have htt : t = Lib.decDigits n.toNat ++ t.drop (blankK t) := by rw [← hd, List.take_append_drop]
      unfold tailW at hw
      by_cases h2 : op = 2
      · rw [if_pos h2] at hw
        cases hdr : t.drop (blankK t) with
        | nil => rw [hdr] at hw; cases hw
        | cons c v =>
          rw [hdr] at hw
          simp only at hw
          split at hw
          · rename_i hc
            split at hw
            · cases hw
            rename_i hv
            split at hw
            · rename_i h45
              cases hw
              refine ⟨⟨.inr (.inl h2), n0, n1, wordE_nil, fun _ => rfl⟩, rfl, ?_⟩
              rw [htt, hdr, hc, h45]
              show _ = Lib.decDigits n.toNat ++ sufB ⟨op, n, ⟨#[]⟩⟩
              unfold sufB
              rw [if_pos h2]; rfl
            · split at hw
              · rename_i h45 hwd
                cases hw
                refine ⟨⟨.inr (.inl h2), n0, n1, hwd, fun hh => absurd h2 hh⟩, rfl, ?_⟩
                rw [htt, hdr, hc]
                unfold sufB
                rw [if_pos h2, if_neg]
                intro hz
                exact hv (List.eq_nil_of_length_eq_zero hz)
              · cases hw
          · cases hw
      · rw [if_neg h2] at hw
        split at hw
        · rename_i he
          cases hw
          refine ⟨⟨ho, n0, n1, wordE_nil, fun _ => rfl⟩, rfl, ?_⟩
          rw [htt, he]
          unfold sufB
          rw [if_neg h2]
        · cases hw
theorem rdK_of {x : Tri} (h : LineOk x) : rdK x.a (Lib.decDigits x.b.toNat ++ sufB x) = some x := by
  have hnb := dec_noblank x.b.toNat
  unfold rdK
  by_cases h2 : x.a = 2
  · have hs : sufB x = 32 :: (if x.s.size = 0 then [45] else x.s.data.toList) := by
      unfold sufB; rw [if_pos h2]; split <;> rfl
    rw [hs, blankK_app _ _ hnb, List.take_left', List.drop_left', numW_dec h.at0 h.at1]
    · simp only
      unfold tailW
      rw [if_pos h2]
      simp only [if_true]
      by_cases h0 : x.s.size = 0
      · rw [if_pos h0, if_neg (by simp), if_pos rfl]
        simp only
        rw [← bytes_nil h0]
      · have hw : wordE ⟨x.s.data.toList.toArray⟩ = 0 := by rw [bytes_of]; exact h.wd
        rw [if_neg h0, if_neg, if_neg (letters_noblank hw).2, if_pos hw]
        intro e; exact h0 (by have := congrArg List.length e; simpa using this)
    · rfl
    · rfl
  · have hs : sufB x = [] := by unfold sufB; rw [if_neg h2]
    rw [hs, List.append_nil, blankK_all _ hnb, List.take_length, List.drop_length, numW_dec h.at0 h.at1]
    simp only
    unfold tailW
    rw [if_neg h2, if_pos rfl]
    simp only
    rw [← bytes_nil (h.bare h2)]
theorem pre_split {p s : List UInt8} (h : p.isPrefixOf s = true) : s = p ++ s.drop p.length := by
  obtain ⟨t, rfl⟩ := List.isPrefixOf_iff_prefix.1 h
  rw [List.drop_left']; rfl
theorem readC_ok {s : List UInt8} {x : Tri} (h : readC s = some x) : LineOk x ∧ lineR x = s := by
  have key : ∀ op : Int, (op = 1 ∨ op = 2 ∨ op = 3) → (preB op).isPrefixOf s = true → rdK op (s.drop (preB op).length) = some x → LineOk x ∧ lineR x = s := fun op ho hp hr => by
    obtain ⟨a, b, c⟩ := rdK_ok ho hr
    refine ⟨a, ?_⟩
    rw [pre_split hp, c]
    unfold lineR preB
    rw [b]; simp
  unfold readC at h
  split at h
  · rename_i hp; exact key 1 (.inl rfl) hp h
  split at h
  · rename_i hp; exact key 2 (.inr (.inl rfl)) hp h
  split at h
  · rename_i hp; exact key 3 (.inr (.inr rfl)) hp h
  · cases h
theorem readC_of {x : Tri} (h : LineOk x) : readC (lineR x) = some x := by
  have hr := rdK_of h
  have e : lineR x = preB x.a ++ (Lib.decDigits x.b.toNat ++ sufB x) := by unfold lineR preB; simp
  rw [e]
  unfold readC
  rcases h.op with h1 | h1 | h1
  · rw [h1] at hr ⊢
    rw [if_pos (by rw [List.isPrefixOf_iff_prefix]; exact List.prefix_append _ _)]
    exact hr
  · rw [h1] at hr ⊢
    rw [if_neg, if_pos (by rw [List.isPrefixOf_iff_prefix]; exact List.prefix_append _ _)]
    · exact hr
    · simp [preB, nameB, List.isPrefixOf]
  · rw [h1] at hr ⊢
    rw [if_neg, if_neg, if_pos (by rw [List.isPrefixOf_iff_prefix]; exact List.prefix_append _ _)]
    · exact hr
    · simp [preB, nameB, List.isPrefixOf]
    · simp [preB, nameB, List.isPrefixOf]
theorem name_noblank (a : Int) : ∀ c ∈ nameB a, c ≠ 32 := by
  intro c hc
  unfold nameB at hc
  split at hc
  · simp at hc; rcases hc with rfl | rfl | rfl | rfl | rfl <;> decide
  split at hc
  · simp at hc; rcases hc with rfl | rfl | rfl | rfl | rfl | rfl <;> decide
  · simp at hc; rcases hc with rfl | rfl | rfl <;> decide
/-- the reference finds the word -/
theorem wordR_line {x : Tri} (h : LineOk x) : wordR (lineR x) = x.s.data.toList := by
  unfold wordR lineR
  rw [after1_app _ _ (name_noblank _)]
  simp only
  by_cases h2 : x.a = 2
  · have hs : sufB x = 32 :: (if x.s.size = 0 then [45] else x.s.data.toList) := by
      unfold sufB; rw [if_pos h2]; split <;> rfl
    rw [hs, after1_app _ _ (dec_noblank _)]
    simp only
    by_cases h0 : x.s.size = 0
    · rw [if_pos h0, if_pos rfl, bytes_nil h0]
    · rw [if_neg h0, if_neg]
      have hw : wordE ⟨x.s.data.toList.toArray⟩ = 0 := by rw [bytes_of]; exact h.wd
      exact (letters_noblank hw).2
  · have hs : sufB x = [] := by unfold sufB; rw [if_neg h2]
    rw [hs, List.append_nil, after1_none _ (dec_noblank _)]
    simp only
    rw [bytes_nil (h.bare h2)]
/-- what the reference tries -/
def candC (w : List UInt8) (at' : Nat) (op : Nat) : Tri := ⟨(op : Int), (at' : Int), if op = 2 then ⟨w.toArray⟩ else ⟨#[]⟩⟩
theorem cand_ok {w : List UInt8} (hw : wordE ⟨w.toArray⟩ = 0) {at' op : Nat} (ha : at' ≤ 22) (ho : op = 1 ∨ op = 2 ∨ op = 3) : LineOk (candC w at' op) := by
  refine ⟨?_, by simp [candC], by simp only [candC]; omega, ?_, fun h2 => ?_⟩
  · rcases ho with rfl | rfl | rfl
    · exact .inl rfl
    · exact .inr (.inl rfl)
    · exact .inr (.inr rfl)
  · unfold candC; split
    · exact hw
    · exact wordE_nil
  · unfold candC at h2 ⊢
    simp only at h2 ⊢
    rw [if_neg (by intro e; exact h2 (by rw [e]; rfl))]; rfl
/-- a try that gives the line is what is read -/
theorem read_hit {s : List UInt8} (hw : wordE ⟨(wordR s).toArray⟩ = 0) {at' op : Nat} (ha : at' ≤ 22) (ho : op = 1 ∨ op = 2 ∨ op = 3) (h : lineR (candC (wordR s) at' op) = s) : readC s = some (candC (wordR s) at' op) := by
  conv => lhs; rw [← h]
  exact readC_of (cand_ok hw ha ho)
/-- nothing is read where no try gives the line -/
theorem read_miss {s : List UInt8} (h : wordE ⟨(wordR s).toArray⟩ = 0 → ∀ at' op : Nat, at' ≤ 22 → (op = 1 ∨ op = 2 ∨ op = 3) → lineR (candC (wordR s) at' op) ≠ s) : readC s = none := by
  cases hr : readC s with
  | none => rfl
  | some x =>
    exfalso
    obtain ⟨ok, hl⟩ := readC_ok hr
    have hwd := wordR_line ok
    rw [hl] at hwd
    have hw : wordE ⟨(wordR s).toArray⟩ = 0 := by rw [hwd, bytes_of]; exact ok.wd
    refine h hw x.b.toNat x.a.toNat (by have := ok.at1; have := ok.at0; omega) (by have := ok.op; omega) ?_
    have e : candC (wordR s) x.b.toNat x.a.toNat = x := by
      unfold candC
      have e1 : (x.a.toNat : Int) = x.a := by have := ok.op; omega
      have e2 : (x.b.toNat : Int) = x.b := by have := ok.at0; omega
      rw [e1, e2, hwd]
      by_cases h2 : x.a = 2
      · rw [if_pos (by omega), bytes_of]
      · rw [if_neg (by have := ok.op; omega), ← bytes_nil (ok.bare h2)]
    rw [e, hl]
/-! ### whole texts -/
def goC : Nat → List Tri → List (List UInt8) → List Tri × Nat × Int
  | _, acc, [] => (acc, 0, 0)
  | k, acc, [s] => if s = [] then (acc, 0, 0) else if 1000 < k then ([], k, 3) else ([], k, 6)
  | k, acc, s :: t :: r => if 1000 < k then ([], k, 3) else match readC s with
    | none => ([], k, 6)
    | some x => goC (k + 1) (acc ++ [x]) (t :: r)
def parseC (L : List UInt8) : List Tri × Nat × Int := if 40000 < L.length then ([], 0, 3) else goC 1 [] (spl 10 L)
end Go.Proofs.YtmfklcnocekdlaaGreatDoor
