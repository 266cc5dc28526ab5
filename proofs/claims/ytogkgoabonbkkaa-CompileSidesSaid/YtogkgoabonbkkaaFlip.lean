/- Plain: flipped works, works twice. -/
import Derived.Test.YtogkgoabonbkkaaSame5
import Derived.Laws.DeepStrings4
import Derived.Laws.AppendOwnNone
set_option linter.unusedSimpArgs false
set_option linter.unusedVariables false
namespace Go.Proofs.Ytogkgoabonbkkaa
open Go Go.RowKit Tor

section
variable {p s : Int}
/-- the works lie mirrored -/
def Mir (p : Int) (T l : List Tri) : Prop := T.map (·.b) = l.map fun x => p - 2 - x.b
theorem Mir.len {T l : List Tri} (h : Mir p T l) : T.length = l.length := by
  have := congrArg List.length h
  simpa using this
theorem Mir.drop {T l : List Tri} (h : Mir p T l) (k : Nat) : Mir p (T.drop k) (l.drop k) := by
  unfold Mir at h ⊢
  rw [List.map_drop, List.map_drop, h]
theorem Mir.at {T l : List Tri} (h : Mir p T l) {k : Nat} (hT : k < T.length) (hl : k < l.length) : T[k].b = p - 2 - l[k].b := by
  have h1 : (T.map (·.b))[k]? = (l.map fun x => p - 2 - x.b)[k]? := by rw [h]
  rw [List.getElem?_map, List.getElem?_map, List.getElem?_eq_getElem hT, List.getElem?_eq_getElem hl] at h1
  simpa using h1
theorem Mir.xAt {T l : List Tri} (h : Mir p T l) {k : Nat} (hl : k < l.length) : (xAt T k).b = p - 2 - (xAt l k).b := by
  have hT : k < T.length := by rw [h.len]; exact hl
  rw [xAt_of hT, xAt_of hl]
  exact h.at hT hl
theorem held_mir {h b : Int} (h0 : 0 ≤ h) (h1 : h ≤ p - s) : heldB (p - s - h) s (p - 2 - b) = heldB h s b := by
  rw [Bool.eq_iff_iff, held_iff, held_iff]; omega
theorem runN_mir {h : Int} (h0 : 0 ≤ h) (h1 : h ≤ p - s) : ∀ (T l : List Tri), Mir p T l → runN T (p - s - h) s = runN l h s
  | [], [], _ => rfl
  | [], x :: r, hm => by have := hm.len; simp at this
  | y :: t, [], hm => by have := hm.len; simp at this
  | y :: t, x :: r, hm => by
    unfold Mir at hm
    simp only [List.map_cons, List.cons.injEq] at hm
    have e := held_mir (p := p) (s := s) (b := x.b) h0 h1
    rw [← hm.1] at e
    cases hh : heldB h s x.b
    · rw [runN_not hh, runN_not (by rw [e]; exact hh)]
    · rw [runN_held hh, runN_held (by rw [e]; exact hh), runN_mir h0 h1 t r hm.2]
theorem mx_mir {T l : List Tri} (hm : Mir p T l) (hsp : s ≤ p) : mx p s T = mx p s l := by
  obtain ⟨b, b0, b1, b2⟩ := mx_at (s := s) T hsp
  obtain ⟨d, d0, d1, d2⟩ := mx_at (s := s) l hsp
  have h1 := mx_ge (p := p) (s := s) (l := l) (h := p - s - b) (by omega) (by omega)
  have h2 := mx_ge (p := p) (s := s) (l := T) (h := p - s - d) (by omega) (by omega)
  rw [runN_mir d0 d1 T l hm] at h2
  have h3 := runN_mir (p := p) (s := s) (h := p - s - b) (by omega) (by omega) T l hm
  rw [show p - s - (p - s - b) = b by omega] at h3
  omega
theorem C_mir (hs : 2 ≤ s) (hsp : s ≤ p) : ∀ (n : Nat) (T l : List Tri), l.length ≤ n → Mir p T l → (∀ x ∈ T, WOk p x) → (∀ x ∈ l, WOk p x) → C p s T = C p s l
  | n, [], [], _, _, _, _ => rfl
  | n, [], x :: r, _, hm, _, _ => by have := hm.len; simp at this
  | n, y :: t, [], _, hm, _, _ => by have := hm.len; simp at this
  | 0, y :: t, x :: r, hn, _, _, _ => by simp at hn
  | n + 1, y :: t, x :: r, hn, hm, hT, hl => by
    rw [C_cons (hT y (by simp)) hs hsp, C_cons (hl x (by simp)) hs hsp, mx_mir hm hsp]
    have h1 := mx_pos (r := r) (hl x (by simp)) hs hsp
    rw [C_mir hs hsp n ((y :: t).drop (mx p s (x :: r))) ((x :: r).drop (mx p s (x :: r))) (by rw [List.length_drop]; simp only [List.length_cons] at hn ⊢; omega) (hm.drop _) (fun z hz => hT z (List.mem_of_mem_drop hz)) (fun z hz => hl z (List.mem_of_mem_drop hz))]
theorem C_flip (hs : 2 ≤ s) (hsp : s ≤ p) {T l : List Tri} (hm : Mir p T l) (hT : ∀ x ∈ T, WOk p x) (hl : ∀ x ∈ l, WOk p x) : C p s T = C p s l := C_mir hs hsp _ T l (Nat.le_refl _) hm hT hl

theorem touch_mir {T l : List Tri} (hm : Mir p T l) {i k : Nat} (hi : i < l.length) (hk : k < l.length) : touchAt T i k = touchAt l i k := by
  unfold touchAt touchB
  rw [hm.xAt hi, hm.xAt hk, Bool.and_comm]
  congr 1
  · apply decide_eq_decide.2; omega
  · apply decide_eq_decide.2; omega
theorem rdy_mir {T l : List Tri} (hm : Mir p T l) {M : List Nat} {i : Nat} (hi : i < l.length) : rdyB T M i = rdyB l M i := by
  unfold rdyB
  congr 1
  rw [Bool.eq_iff_iff]
  simp only [List.all_eq_true, List.mem_range]
  constructor
  · intro h k hk
    have := h k hk
    rw [touch_mir hm hi (by omega)] at this
    exact this
  · intro h k hk
    have := h k hk
    rw [touch_mir hm hi (by omega)]
    exact this
theorem lin_mir {T l : List Tri} (hm : Mir p T l) : ∀ (O M : List Nat), LinExt T M O → LinExt l M O
  | [], M, _ => trivial
  | i :: r, M, h => by
    unfold LinExt at h
    have hi : i < l.length := by rw [← hm.len]; exact h.1
    exact ⟨hi, by rw [← rdy_mir hm hi]; exact h.2.1, lin_mir hm r _ h.2.2⟩
theorem lin_mir' {T l : List Tri} (hm : Mir p T l) : ∀ (O M : List Nat), LinExt l M O → LinExt T M O
  | [], M, _ => trivial
  | i :: r, M, h => by
    unfold LinExt at h
    exact ⟨by rw [hm.len]; exact h.1, by rw [rdy_mir hm h.1]; exact h.2.1, lin_mir' hm r _ h.2.2⟩
theorem mir_map {T l : List Tri} (hm : Mir p T l) : ∀ (O : List Nat), (∀ i ∈ O, i < l.length) → Mir p (O.map (xAt T)) (O.map (xAt l))
  | [], _ => rfl
  | i :: r, h => by
    have ih := mir_map hm r (fun j hj => h j (by simp [hj]))
    unfold Mir at ih ⊢
    rw [List.map_cons, List.map_cons, List.map_cons, List.map_cons, ih, hm.xAt (h i (by simp))]
theorem best_mir (hs : 2 ≤ s) (hsp : s ≤ p) {T l : List Tri} (hm : Mir p T l) (hT : ∀ x ∈ T, WOk p x) (hl : ∀ x ∈ l, WOk p x) (h10 : l.length ≤ 10) :
    C p s ((bestO p s T).map (xAt T)) = C p s ((bestO p s l).map (xAt l)) := by
  have e := hm.len
  obtain ⟨t1, t2⟩ := bestO_lin (p := p) (s := s) (l := T) (by omega)
  obtain ⟨l1, l2⟩ := bestO_lin (p := p) (s := s) (l := l) h10
  have a1 := bestO_opt hs hsp h10 hl (lin_mir hm _ _ t1) (by omega)
  have a2 := bestO_opt (l := T) hs hsp (by omega) hT (lin_mir' hm _ _ l1) (by omega)
  have b1 := C_flip hs hsp (mir_map hm (bestO p s T) (fun i hi => by rw [← e]; exact lin_lt _ _ t1 i hi)) (lin_wok hT t1) (lin_wok hl (lin_mir hm _ _ t1))
  have b2 := C_flip hs hsp (mir_map hm (bestO p s l) (lin_lt _ _ l1)) (lin_wok hT (lin_mir' hm _ _ l1)) (lin_wok hl l1)
  omega

theorem runN_app_lt (a b : List Tri) (h : Int) : runN (a ++ b) h s = if runN a h s < a.length then runN a h s else a.length + runN b h s := by
  induction a with
  | nil => simp [runN_nil]
  | cons x r ih =>
    cases hh : heldB h s x.b
    · rw [List.cons_append, runN_not hh, runN_not hh, if_pos (by simp)]
    · rw [List.cons_append, runN_held hh, runN_held hh, ih, List.length_cons]
      split <;> split <;> omega
theorem runN_len (a : List Tri) (h : Int) : runN a h s ≤ a.length := by
  have := runN_app_lt (s := s) a [] h
  rw [List.append_nil, runN_nil] at this
  split at this <;> omega
theorem mx_len (a : List Tri) : mx p s a ≤ a.length := runN_len _ _
theorem drop_app {α : Type} (a b : List α) {m : Nat} (h : m ≤ a.length) : (a ++ b).drop m = a.drop m ++ b := List.drop_append_of_le_length h
theorem wok_app {a b : List Tri} (ha : ∀ x ∈ a, WOk p x) (hb : ∀ x ∈ b, WOk p x) : ∀ x ∈ a ++ b, WOk p x := fun x hx => by
  rcases List.mem_append.1 hx with hx | hx
  · exact ha x hx
  · exact hb x hx
theorem C_app (hs : 2 ≤ s) (hsp : s ≤ p) {b : List Tri} (hb : ∀ x ∈ b, WOk p x) : ∀ (n : Nat) (a : List Tri), a.length ≤ n → (∀ x ∈ a, WOk p x) → C p s (a ++ b) ≤ C p s a + C p s b ∧ C p s a + C p s b ≤ C p s (a ++ b) + 1
  | n, [], _, _ => by simp [C_nil]
  | 0, x :: r, hn, _ => by simp at hn
  | n + 1, x :: r, hn, ha => by
    have hx := ha x (by simp)
    have hab := wok_app ha hb
    have m1 := mx_pos (r := r) hx hs hsp
    have ml := mx_len (p := p) (s := s) (x :: r)
    have hge : mx p s (x :: r) ≤ mx p s (x :: r ++ b) := by
      obtain ⟨h, h0, h1, h2⟩ := mx_at (s := s) (x :: r) hsp
      have := mx_ge (p := p) (s := s) (l := x :: r ++ b) h0 h1
      rw [runN_app_lt] at this
      split at this <;> omega
    have ihd := C_app hs hsp hb n ((x :: r).drop (mx p s (x :: r))) (by rw [List.length_drop]; simp only [List.length_cons] at hn ⊢; omega) (fun z hz => ha z (List.mem_of_mem_drop hz))
    rw [← drop_app _ _ ml] at ihd
    have e1 := C_cons hx hs hsp (r := r)
    have e2 := C_cons hx hs hsp (r := r ++ b)
    rw [← List.cons_append] at e2
    have m2 := C_mono2 (l := x :: r ++ b) hs hsp hab hge
    refine ⟨by omega, ?_⟩
    rcases Nat.lt_or_ge (mx p s (x :: r)) (mx p s (x :: r ++ b)) with hlt | heq
    · obtain ⟨h, h0, h1, h2⟩ := mx_at (s := s) (x :: r ++ b) hsp
      have g1 := mx_ge (p := p) (s := s) (l := x :: r) h0 h1
      have g2 := runN_len (s := s) (x :: r) h
      rw [runN_app_lt] at h2
      split at h2
      · omega
      · have hl1 : mx p s (x :: r) = (x :: r).length := by omega
        have hd1 : (x :: r).drop (mx p s (x :: r)) = [] := List.drop_of_length_le (by omega)
        rw [hd1, C_nil] at e1
        have hd2 : (x :: r ++ b).drop (mx p s (x :: r ++ b)) = b.drop (runN b h s) := by
          rw [← h2, List.drop_append, List.drop_of_length_le (by omega), List.nil_append]
          congr 1; omega
        rw [hd2] at e2
        have := C_le (l := b) hs hsp hb h0 h1
        omega
    · rw [show mx p s (x :: r ++ b) = mx p s (x :: r) by omega] at e2
      omega
end

def flips : ByteArray := ⟨#[67, 84, 82, 76, 80, 99, 116, 114, 108]⟩
theorem flips_one : ∀ k : Fin 9, (flips.extract k.1 (k.1 + 1)).data.toList.all isLetter = true ∧ (flips.extract k.1 (k.1 + 1)).size = 1 := by decide
theorem idx_lt {c : UInt8} (h : isLetter c = true) : ∃ k : Nat, k < 9 ∧ Lib.indexByte lettersL c = k := by
  unfold isLetter lettersL at h
  simp at h
  rcases h with rfl | rfl | rfl | rfl | rfl | rfl | rfl | rfl | rfl
  · exact ⟨0, by omega, by decide⟩
  · exact ⟨1, by omega, by decide⟩
  · exact ⟨2, by omega, by decide⟩
  · exact ⟨3, by omega, by decide⟩
  · exact ⟨4, by omega, by decide⟩
  · exact ⟨5, by omega, by decide⟩
  · exact ⟨6, by omega, by decide⟩
  · exact ⟨7, by omega, by decide⟩
  · exact ⟨8, by omega, by decide⟩
theorem wordE_letters {s : ByteArray} (h : wordE s = 0) : s.size ≤ 16 ∧ s.data.toList.all isLetter = true := by
  unfold wordE at h
  split at h
  · cases h
  · split at h
    · rename_i h1 h2; exact ⟨by omega, h2⟩
    · cases h
theorem wordE_of {s : ByteArray} (h1 : s.size ≤ 16) (h2 : s.data.toList.all isLetter = true) : wordE s = 0 := by
  unfold wordE
  rw [if_neg (by omega), if_pos h2]
theorem app_letters {s x : ByteArray} (h1 : s.data.toList.all isLetter = true) (h2 : x.data.toList.all isLetter = true) : (s ++ x).data.toList.all isLetter = true := by
  rw [ByteArray.data_append, Array.toList_append, List.all_append, h1, h2]; rfl

set_option maxRecDepth 100000 in
set_option maxHeartbeats 1000000 in
theorem changed_any (s : ByteArray) (w : World) (hs : wordE s = 0) :
    Calls Try.prog 83 #[.string s, .string ⟨#[67, 84, 82, 76, 80, 99, 116, 114, 108]⟩] w fun e w' => ∃ u, e = .returned (.tuple #[.string u, .int .i64 0]) ∧ wordE u = 0 ∧ u.size = s.size ∧ Below w.heap.size w w' := by
  obtain ⟨h16, hal⟩ := wordE_letters hs
  have HS := Lib.hid hs
  have HAL := Lib.hid hal
  clear hs hal
  go_enter Try.func83, Try.ntmps83
  go_wp2_with (first
    | (go_at_call 55; refine (wordRef_any s _ (by omega)).mono ?_; rintro e w1 ⟨rfl, hB1⟩; rw [HS.out])
    | fail)
  go_loopw [7, 8] (fun u i wr => ∃ (k : Nat) (x : ByteArray), k ≤ s.size ∧ i = .int .i64 k ∧ u = .string x ∧ x.size = k ∧ Hid (x.data.toList.all isLetter = true) ∧ Below w.heap.size w wr) (fun _ i _ => s.size - (intOf i).toNat)
  case atStart => exact ⟨0, ⟨#[]⟩, Nat.zero_le _, rfl, rfl, rfl, rfl, hB1⟩
  case round =>
    obtain ⟨k, x, hk, rfl, rfl, hxs, hx, hB⟩ := hrel
    by_cases hlt : k < s.size
    · have hlet : isLetter s[k] = true := by
        have := List.all_eq_true.1 HAL.out s[k] (by rw [← bgetL s k hlt]; exact List.getElem_mem _)
        exact this
      obtain ⟨q, hq9, hq⟩ := idx_lt hlet
      have hone := Lib.hid (flips_one ⟨q, hq9⟩)
      have HQ := Lib.hid hq
      have k0 : (0 : Int) ≤ (k : Int) := by omega
      have k1 : (k : Int) < (s.size : Int) := by omega
      have q0 : (0 : Int) ≤ (q : Int) := by omega
      have q1 : (q : Int) < 9 := by omega
      clear hq hlet
      go_wp2_with (first
        | (go_at_call 77; refine (letterRef _ _).mono ?_; rintro e w2 ⟨rfl, hB2⟩; rw [HQ.out])
        | fail)
      refine ⟨⟨k + 1, x ++ (⟨#[67, 84, 82, 76, 80, 99, 116, 114, 108]⟩ : ByteArray).extract q (q + 1), by omega, by go_num, rfl, ?_, app_letters hx.out hone.out.1, hB.trans (hB2.mono hB.size)⟩, by simp [intOf]; omega⟩
      rw [ByteArray.size_append, hxs]
      have := hone.out.2
      unfold flips at this
      omega
    · go_wp2_with fail
      go_ret2
      exact ⟨x, rfl, wordE_of (by omega) hx.out, by omega, hB⟩

theorem flip3_any (s : ByteArray) (w : World) (hs : wordE s = 0) :
    Calls Try.prog 79 #[.string s] w fun e w' => ∃ u, e = .returned (.tuple #[.string u, .int .i64 0]) ∧ wordE u = 0 ∧ u.size = s.size ∧ Below w.heap.size w w' := by
  have HS := Lib.hid hs
  clear hs
  go_enter Try.func79, Try.ntmps79
  go_wp2_with (first
    | (go_at_call 83; refine (changed_any s _ HS.out).mono ?_; rintro e w1 ⟨u, rfl, hu, hus, hB1⟩
       have HU := Lib.hid hu
       have HUS := Lib.hid hus
       clear hu hus)
    | fail)
  go_ret2
  exact ⟨u, rfl, HU.out, HUS.out, hB1⟩

theorem sheet_ret1 {fn : Func} {p : Tmp} (h : fn.results = #[.cell p 24]) {R : Ending → World → Prop} {a : Act} {w : World} {g : Nat} {x y : Value} (hp : a.tmps.getD p undef = .pointer (some ⟨g, 0, none⟩))
    (hb : Blk w g 24 #[x, y]) (hd : a.defers = []) (hR : R (.returned (.agg #[x, y])) w) : bodyPost Try.prog fn R .ret a w := by
  refine bodyPost_ret (v := .agg #[x, y]) ?_ hd hR
  have c0 := hb.cell 0 x rfl
  have c1 := hb.cell 1 y rfl
  have hp' : a.tmps[p]?.getD undef = .pointer (some ⟨g, 0, none⟩) := by simpa using hp
  simp only [results, h]
  simp [Sem.run_bind, Result.andThen, hp']
  go_simp
theorem sheet_ret2 {fn : Func} {p u : Tmp} (h : fn.results = #[.cell p 24, .tmp u]) {R : Ending → World → Prop} {a : Act} {w : World} {g : Nat} {x y : Value} (hp : a.tmps.getD p undef = .pointer (some ⟨g, 0, none⟩))
    (hb : Blk w g 24 #[x, y]) (hd : a.defers = []) (hR : R (.returned (.tuple #[.agg #[x, y], a.tmps.getD u undef])) w) : bodyPost Try.prog fn R .ret a w := by
  refine bodyPost_ret (v := .tuple #[.agg #[x, y], a.tmps.getD u undef]) ?_ hd hR
  have c0 := hb.cell 0 x rfl
  have c1 := hb.cell 1 y rfl
  have hp' : a.tmps[p]?.getD undef = .pointer (some ⟨g, 0, none⟩) := by simpa using hp
  simp only [results, h]
  simp [Sem.run_bind, Result.andThen, hp']
  go_simp

theorem mir_snoc {p : Int} {D l : List Tri} {j : Nat} {y : Tri} (h : Mir p D (l.take j)) (hj : j < l.length) (hy : y.b = p - 2 - l[j].b) : Mir p (D ++ [y]) (l.take (j + 1)) := by
  unfold Mir at h ⊢
  rw [take_snoc l j hj, List.map_append, List.map_append, h]
  simp [hy]

set_option maxRecDepth 100000 in
set_option maxHeartbeats 2000000 in
theorem flip10_any (P : Int) (A : Option Addr) (l : List Tri) (c : Nat) (w : World) (H : Nat) (hr : RdT w H A l) (hH : H ≤ w.heap.size) (hwk : ∀ x ∈ l, WOk P x) (h2 : 2 ≤ P) (h24 : P ≤ 24) (hl : l.length ≤ 400) :
    Calls Try.prog 61 #[.agg #[.int .i64 P, .slice A l.length c]] w fun e w' => ∃ (T : List Tri) (A' : Option Addr) (c' : Nat), e = .returned (.agg #[.int .i64 P, .slice A' T.length c']) ∧ Own 3 Tri.enc w' w.heap.size 57 (.slice A' T.length c') T ∧ T.length ≤ c' ∧ Mir P T l ∧ (∀ x ∈ T, WOk P x) ∧ Below w.heap.size w w' := by
  obtain ⟨i0, hi0, hz0', hz1', hz2'⟩ := info_parts infoWork
  have HK := Lib.hid hwk
  clear hwk
  obtain ⟨W1, hW1⟩ : ∃ W1, Hid (W1 = ((w.alloc (.cells #[.int .i64 P, .slice A l.length c] 24)).alloc (.cells #[.int .i64 0, .slice none 0 0] 24)).alloc (.cells #[.int .i64 P, .slice none 0 0] 24)) := ⟨_, Lib.hid rfl⟩
  have hBW : Below w.heap.size w W1 := by rw [hW1.out]; (repeat' first | exact Below.refl _ _ | apply Below.drew | (refine Below.setCells ?_ _ _ ?_) | (refine Below.setCell ?_ ?_ _) | (refine Below.alloc ?_ ?_ _) | (simp; done) | (simp; omega))
  have kA : Blk W1 w.heap.size 24 #[.int .i64 P, .slice A l.length c] := by rw [hW1.out]; exact ((Blk.new w _ _).alloc _).alloc _
  have kR : Blk W1 (w.heap.size + 1) 24 #[.int .i64 0, .slice none 0 0] := by
    rw [hW1.out]
    have := (Blk.new (w.alloc (.cells #[.int .i64 P, .slice A l.length c] 24)) 24 #[.int .i64 0, .slice none 0 0]).alloc (.cells #[.int .i64 P, .slice none 0 0] 24)
    simpa using this
  have kS : Blk W1 (w.heap.size + 1 + 1) 24 #[.int .i64 P, .slice none 0 0] := by
    rw [hW1.out]
    have := Blk.new ((w.alloc (.cells #[.int .i64 P, .slice A l.length c] 24)).alloc (.cells #[.int .i64 0, .slice none 0 0] 24)) 24 #[.int .i64 P, .slice none 0 0]
    simpa using this
  go_enter Try.func61, Try.ntmps61
  go_wp2_with fail
  rw [← hW1.out]
  go_loopw [4] (fun i wr => ∃ (j : Nat) (D : List Tri) (v : Value), j ≤ l.length ∧ i = .int .i64 j ∧ D.length = j ∧ Hid (Mir P D (l.take j)) ∧ Hid (∀ x ∈ D, WOk P x) ∧ Blk wr w.heap.size 24 #[.int .i64 P, .slice A l.length c] ∧ Blk wr (w.heap.size + 1) 24 #[.int .i64 0, .slice none 0 0] ∧ Blk wr (w.heap.size + 1 + 1) 24 #[.int .i64 P, v] ∧ Own 3 Tri.enc wr (w.heap.size + 1 + 1 + 1) 57 v D ∧ Below w.heap.size w wr) (fun i _ => l.length - (intOf i).toNat)
  case atStart => exact ⟨0, [], .slice none 0 0, Nat.zero_le _, rfl, rfl, by rw [Hid, List.take_zero]; rfl, by simp [Hid], kA, kR, kS, Own.nil _ _ _, hBW⟩
  case round =>
    obtain ⟨j, D, v, hj, rfl, hDl, hmir, hok, hA, hR, hS, hown, hB⟩ := hrel
    obtain ⟨Av, cv, rfl, hcv, hrd⟩ := Own.rd tri_len hown
    have hz := hB.size
    have a0 := hA.cell 0 _ rfl
    have a1 := hA.cell 1 _ rfl
    have an := hA.lt
    have sn := hS.lt
    have HDL := Lib.hid hDl
    have hDle : D.length ≤ 400 := by omega
    clear hDl
    by_cases hlt : j < l.length
    · obtain ⟨b, o, rfl, hb0, h0, h1, h2'⟩ := (hr.below' hB hH).tri hlt
      have hbb := lt_of_cell h0
      have hx := HK.out l[j] (List.getElem_mem hlt)
      have HX := Lib.hid hx
      have b0 := hx.b0
      have b1 := hx.b1
      have HWD := Lib.hid hx.w
      have k0 : (0 : Int) ≤ (j : Int) := by omega
      have k1 : (j : Int) < (l.length : Int) := by omega
      clear hx
      go_wp2_with (first
        | (go_at_call 79; refine (flip3_any l[j].s _ HWD.out).mono ?_; rintro e w2 ⟨u, rfl, hu, hus, hB2⟩
           have HU := Lib.hid hu
           have HUS := Lib.hid hus
           clear hu hus
           have kX := (Blk.new wr 57 #[.int .i64 l[j].a, .int .i64 (P - 2 - l[j].b), .string l[j].s]).below' hB2
           have hq2 : Below wr.heap.size wr w2 := Below.trans (b := wr.alloc (.cells #[.int .i64 l[j].a, .int .i64 (P - 2 - l[j].b), .string l[j].s] 57)) (by (repeat' first | exact Below.refl _ _ | apply Below.drew | (refine Below.setCells ?_ _ _ ?_) | (refine Below.setCell ?_ ?_ _) | (refine Below.alloc ?_ ?_ _) | (simp; done) | (simp; omega))) (hB2.mono (by simp))
           have f0 := kX.cell 0 _ rfl
           have f1 := kX.cell 1 _ rfl
           have f2 := kX.cell 2 _ rfl
           have f3 := kX.frozen 2
           have f4 := kX.lt
           have kX2 : Blk (w2.setCell ⟨wr.heap.size, 2, none⟩ (.string u)) wr.heap.size 57 #[.int .i64 l[j].a, .int .i64 (P - 2 - l[j].b), .string u] := by simpa using kX.set_ 2 (.string u)
           have kS2 : Blk (w2.setCell ⟨wr.heap.size, 2, none⟩ (.string u)) (w.heap.size + 1 + 1) 24 #[.int .i64 P, .slice Av D.length cv] := (hS.below' hq2).far (by show w.heap.size + 1 + 1 ≠ wr.heap.size; omega) _
           have hown2 : Own 3 Tri.enc (w2.setCell ⟨wr.heap.size, 2, none⟩ (.string u)) (w.heap.size + 1 + 1 + 1) 57 (.slice Av D.length cv) D := ownsRow_setCell_other (hown.below hq2) (fun e => absurd (World.ownsRow.lt hown _ e).2 (Nat.lt_irrefl _)) _
           have hB2s : Below w.heap.size w (w2.setCell ⟨wr.heap.size, 2, none⟩ (.string u)) := (hB.trans (hq2.mono hz)).setCell hz _
           have e0 := kX2.cell 0 _ rfl
           have e1 := kX2.cell 1 _ rfl
           have e2 := kX2.cell 2 _ rfl
           have e4 := kX2.lt
           have g1 := kS2.cell 1 _ rfl
           have g2 := kS2.lt)
        | (at_builtin; refine wpList_append_tri rfl (.tmp 36) (.tmp 38) _ rfl (w.heap.size + 1 + 1 + 1) _ i0 _ Try.underlying22 hi0 hz0' hz1' hz2' rfl _ D rfl (hown2.alloc _) w2.heap.size ⟨l[j].a, P - 2 - l[j].b, u⟩ rfl (by simpa using World.cell?_alloc_new (w2.setCell ⟨wr.heap.size, 2, none⟩ (.string u)) #[.int .i64 l[j].a, .int .i64 (P - 2 - l[j].b), .string u] 57 0) (by simpa using World.cell?_alloc_new (w2.setCell ⟨wr.heap.size, 2, none⟩ (.string u)) #[.int .i64 l[j].a, .int .i64 (P - 2 - l[j].b), .string u] 57 1) (by simpa using World.cell?_alloc_new (w2.setCell ⟨wr.heap.size, 2, none⟩ (.string u)) #[.int .i64 l[j].a, .int .i64 (P - 2 - l[j].b), .string u] 57 2) (by omega) (by simp; omega) ?_; intro v8 w8 hown8 hg8
           obtain ⟨A8, n8, c8, rfl⟩ : ∃ A n c, v8 = .slice A n c := by
             obtain ⟨A8, c8, e8, _, _⟩ := Own.rd tri_len hown8
             exact ⟨A8, _, c8, e8⟩
           have kS8 := (kS2.alloc (.cells #[.int .i64 l[j].a, .int .i64 (P - 2 - l[j].b), .string u] 57)).grown hg8 (hown2.ne_block kS2 (by decide))
           have g3 := kS8.cell 1 _ rfl
           have g4 := kS8.frozen 1
           have g5 := kS8.lt)
        | fail)
      have hA2 := (hA.below' hq2).far (p := ⟨wr.heap.size, 2, none⟩) (by show w.heap.size ≠ wr.heap.size; omega) (.string u)
      have hR2 := (hR.below' hq2).far (p := ⟨wr.heap.size, 2, none⟩) (by show w.heap.size + 1 ≠ wr.heap.size; omega) (.string u)
      have hA8 := (hA2.alloc (.cells #[.int .i64 l[j].a, .int .i64 (P - 2 - l[j].b), .string u] 57)).grown hg8 (hown2.ne_block hA2 (by decide))
      have hR8 := (hR2.alloc (.cells #[.int .i64 l[j].a, .int .i64 (P - 2 - l[j].b), .string u] 57)).grown hg8 (hown2.ne_block hR2 (by decide))
      have hB8 : Below w.heap.size w w8 := Own.grown ((hown2.base (base' := w.heap.size) (by omega)).alloc (.cells #[.int .i64 l[j].a, .int .i64 (P - 2 - l[j].b), .string u] 57)) (hB2s.alloc hB2s.size _) hg8 (by have := hB2s.size; simp at this ⊢; omega)
      go_roundw
      case rel => exact ⟨j + 1, D ++ [(⟨l[j].a, P - 2 - l[j].b, u⟩ : Tri)], .slice A8 n8 c8, by omega, by go_num, by rw [List.length_append, HDL.out]; rfl, mir_snoc hmir.out hlt rfl, fun x hx => (by
          rcases List.mem_append.1 hx with hx | hx
          · exact hok.out x hx
          · simp only [List.mem_singleton] at hx
            subst hx
            have hx0 := HX.out
            refine ⟨hx0.k, by show 0 ≤ P - 2 - l[j].b; omega, by show P - 2 - l[j].b ≤ P - 2; omega, fun e => ?_, HU.out⟩
            show u.size = 0
            rw [HUS.out]; exact hx0.e e), hA8.far (by show w.heap.size ≠ w.heap.size + 1 + 1; omega) _, hR8.far (by show w.heap.size + 1 ≠ w.heap.size + 1 + 1; omega) _, by simpa using kS8.set_ 1 (.slice A8 n8 c8), ownsRow_setCell_other hown8 (hown8.ne_block kS8 (by decide)).symm _, hB8.setCell (by simp; omega) _⟩
      case measure => simp [intOf]; omega
    · have e1 : l.take j = l := List.take_of_length_le (by omega)
      have HM := hmir.out
      rw [e1] at HM
      have HMM := Lib.hid HM
      have q0 := hR.frozen 0
      have q1 := hR.frozen 1
      have r0 := hR.cell 0 _ rfl
      have r1 := hR.cell 1 _ rfl
      have rl := hR.lt
      have s0 := hS.cell 0 _ rfl
      have s1 := hS.cell 1 _ rfl
      clear HM
      go_wp2_with fail
      (try simp only [Exit.inBlock, Exit.then])
      refine sheet_ret1 rfl rfl (g := w.heap.size + 1) (x := .int .i64 P) (y := .slice Av D.length cv) (by simpa using (hR.set_ 0 (.int .i64 P)).set_ 1 (.slice Av D.length cv)) rfl ?_
      exact ⟨D, Av, cv, rfl, Own.base (ownsRow_setCell_below (ownsRow_setCell_below hown (by simp) _) (by simp) _) (by omega), hcv, HMM.out, hok.out, by (repeat' first | assumption | exact Below.refl _ _ | apply Below.drew | (refine Below.setCells ?_ _ _ ?_) | (refine Below.setCell ?_ ?_ _) | (refine Below.alloc ?_ ?_ _) | (simp; done) | (simp; omega))⟩

theorem flip_any (P : Int) (A : Option Addr) (l : List Tri) (c : Nat) (w : World) (H : Nat) (hr : RdT w H A l) (hH : H ≤ w.heap.size) (hwk : ∀ x ∈ l, WOk P x) (h2 : 2 ≤ P) (h24 : P ≤ 24) (hl : l.length ≤ 400) :
    Calls Try.prog 23 #[.agg #[.int .i64 P, .slice A l.length c]] w fun e w' => ∃ (T : List Tri) (A' : Option Addr) (c' : Nat), e = .returned (.tuple #[.agg #[.int .i64 P, .slice A' T.length c'], .int .i64 0]) ∧ Own 3 Tri.enc w' w.heap.size 57 (.slice A' T.length c') T ∧ T.length ≤ c' ∧ Mir P T l ∧ (∀ x ∈ T, WOk P x) ∧ Below w.heap.size w w' := by
  have HC := Lib.hid (sheetE_of h2 h24 hl hwk)
  have HW := Lib.hid (wok_words hwk)
  have HK := Lib.hid hwk
  clear hwk
  obtain ⟨W1, hW1⟩ : ∃ W1, Hid (W1 = (w.alloc (.cells #[.int .i64 P, .slice A l.length c] 24)).alloc (.cells #[.int .i64 0, .slice none 0 0] 24)) := ⟨_, Lib.hid rfl⟩
  have hBW : Below w.heap.size w W1 := by rw [hW1.out]; (repeat' first | exact Below.refl _ _ | apply Below.drew | (refine Below.setCells ?_ _ _ ?_) | (refine Below.setCell ?_ ?_ _) | (refine Below.alloc ?_ ?_ _) | (simp; done) | (simp; omega))
  have kA : Blk W1 w.heap.size 24 #[.int .i64 P, .slice A l.length c] := by rw [hW1.out]; exact (Blk.new w _ _).alloc _
  have kR : Blk W1 (w.heap.size + 1) 24 #[.int .i64 0, .slice none 0 0] := by
    rw [hW1.out]
    have := Blk.new (w.alloc (.cells #[.int .i64 P, .slice A l.length c] 24)) 24 #[.int .i64 0, .slice none 0 0]
    simpa using this
  have hz := hBW.size
  go_enter Try.func23, Try.ntmps23
  go_wp2_with (first
    | (go_at_call 17; rw [← hW1.out]; refine (sheetRef_any P A l c _ H (hr.below' hBW hH) (by omega) HW.out (by omega)).mono ?_; rintro e w1 ⟨rfl, hB1⟩; rw [HC.out]
       have kA1 := kA.below' hB1
       have kR1 := kR.below' hB1
       have c0 := kA1.cell 0 _ rfl
       have c1 := kA1.cell 1 _ rfl
       have n1 := kA1.lt
       have hB1' := hBW.trans (hB1.mono hz)
       have hz1 := hB1'.size)
    | (go_at_call 61; refine (flip10_any P A l c _ H (hr.below' hB1' hH) (by omega) HK.out h2 h24 hl).mono ?_; rintro e w2 ⟨T, A2, c2, rfl, hown2, hc2, hmir, hok, hB2⟩
       have HM := Lib.hid hmir
       have HO := Lib.hid hok
       clear hmir hok
       have kR2 := kR1.below' hB2
       have d0 := kR2.cell 0 _ rfl
       have d1 := kR2.cell 1 _ rfl
       have d2 := kR2.frozen 0
       have d3 := kR2.frozen 1
       have n3 := kR2.lt
       have hB2' := hB1'.trans (hB2.mono hz1)
       have hR1 := kR1.lt))
  (try simp only [Exit.inBlock, Exit.then])
  refine sheet_ret2 rfl rfl (g := w.heap.size + 1) (x := .int .i64 P) (y := .slice A2 T.length c2) (by simpa using (kR2.set_ 0 (.int .i64 P)).set_ 1 (.slice A2 T.length c2)) rfl ?_
  exact ⟨T, A2, c2, rfl, Own.base (ownsRow_setCell_below (ownsRow_setCell_below hown2 (by simp; omega) _) (by simp; omega) _) hz1, hc2, HM.out, HO.out, by (repeat' first | assumption | exact Below.refl _ _ | apply Below.drew | (refine Below.setCells ?_ _ _ ?_) | (refine Below.setCell ?_ ?_ _) | (refine Below.alloc ?_ ?_ _) | (simp; done) | (simp; omega))⟩

theorem flat_inv {α : Type} {sz : Nat} {enc : α → List Value} (henc : ∀ x, (enc x).length = sz) : ∀ (l : List α) (j : Nat) (u : Value), (l.flatMap enc)[j]? = some u → ∃ k x i, l[k]? = some x ∧ (enc x)[i]? = some u ∧ j = k * sz + i
  | [], j, u, h => by simp at h
  | y :: l, j, u, h => by
    rw [List.flatMap_cons] at h
    rcases Nat.lt_or_ge j (enc y).length with hlt | hge
    · rw [List.getElem?_append_left hlt] at h
      exact ⟨0, y, j, rfl, h, by simp⟩
    · rw [List.getElem?_append_right hge] at h
      obtain ⟨k, x, i, h1, h2, h3⟩ := flat_inv henc l _ u h
      refine ⟨k + 1, x, i, by simpa using h1, h2, ?_⟩
      rw [henc] at h3 hge
      rw [Nat.succ_mul]; omega
theorem rdT_news {w : World} {B b o : Nat} {l : List Tri} (hl : l ≠ []) (h : RdT w B (some ⟨b, o, none⟩) l) : ∀ (j : Nat) u, (l.flatMap Tri.enc)[j]? = some u → w.cell? (Addr.add ⟨b, o, none⟩ j) = some u := by
  intro j u hu
  obtain ⟨b', o', e, _, hc⟩ := h hl
  injection e with e
  injection e with e1 e2 _
  subst e1; subst e2
  obtain ⟨k, x, i, h1, h2, rfl⟩ := flat_inv tri_len l j u hu
  have := hc k x h1 i u h2
  unfold Addr.add
  split
  · next e => rw [Nat.add_assoc, e, Nat.add_zero] at this; exact this
  · rw [Nat.add_assoc] at this; exact this
theorem rdT_news' {w : World} {B : Nat} {ax : Addr} {l : List Tri} (h : RdT w B (some ax) l) : ∀ (j : Nat) u, (l.flatMap Tri.enc)[j]? = some u → w.cell? (Addr.add ax j) = some u := by
  intro j u hu
  by_cases hl : l = []
  · subst hl; simp at hu
  · obtain ⟨b, o, e, _⟩ := h hl
    injection e with e
    subst e
    exact rdT_news hl h j u hu
theorem flat_one (l : List Tri) : ∀ u ∈ l.flatMap Tri.enc, u.oneCell' = true := fun u hu => by
  obtain ⟨x, _, hx⟩ := List.mem_flatMap.1 hu
  exact tri_one x u hx
theorem flat_len (l : List Tri) : (l.flatMap Tri.enc).length = l.length * 3 := by
  induction l with
  | nil => rfl
  | cons x r ih => rw [List.flatMap_cons, List.length_append, ih, tri_len, List.length_cons]; omega

/-- the works so many times -/
def rep (l : List Tri) : Nat → List Tri
  | 0 => []
  | j + 1 => rep l j ++ l
theorem rep_len (l : List Tri) : ∀ j, (rep l j).length = j * l.length
  | 0 => by simp [rep]
  | j + 1 => by rw [rep, List.length_append, rep_len l j, Nat.succ_mul]

set_option maxRecDepth 100000 in
set_option maxHeartbeats 2000000 in
theorem times_some (P : Int) (ax : Addr) (l : List Tri) (c : Nat) (w : World) (H : Nat) (hr : RdT w H (some ax) l) (hH : H ≤ w.heap.size) (hwk : ∀ x ∈ l, WOk P x) (h2 : 2 ≤ P) (h24 : P ≤ 24) (hl : l.length ≤ 60) :
    Calls Try.prog 24 #[.agg #[.int .i64 P, .slice (some ax) l.length c], .int .i64 2] w fun e w' => ∃ (A' : Option Addr) (c' : Nat), e = .returned (.tuple #[.agg #[.int .i64 P, .slice A' (l ++ l).length c'], .int .i64 0]) ∧ Own 3 Tri.enc w' w.heap.size 57 (.slice A' (l ++ l).length c') (l ++ l) ∧ Below w.heap.size w w' := by
  obtain ⟨i0, hi0, hz0', hz1', hz2'⟩ := info_parts infoWork
  have HC := Lib.hid (sheetE_of h2 h24 (by omega) hwk)
  have HW := Lib.hid (wok_words hwk)
  clear hwk
  obtain ⟨W1, hW1⟩ : ∃ W1, Hid (W1 = (w.alloc (.cells #[.int .i64 P, .slice (some ax) l.length c] 24)).alloc (.cells #[.int .i64 0, .slice none 0 0] 24)) := ⟨_, Lib.hid rfl⟩
  have hBW : Below w.heap.size w W1 := by rw [hW1.out]; (repeat' first | exact Below.refl _ _ | apply Below.drew | (refine Below.setCells ?_ _ _ ?_) | (refine Below.setCell ?_ ?_ _) | (refine Below.alloc ?_ ?_ _) | (simp; done) | (simp; omega))
  have kA : Blk W1 w.heap.size 24 #[.int .i64 P, .slice (some ax) l.length c] := by rw [hW1.out]; exact (Blk.new w _ _).alloc _
  have kR : Blk W1 (w.heap.size + 1) 24 #[.int .i64 0, .slice none 0 0] := by
    rw [hW1.out]
    have := Blk.new (w.alloc (.cells #[.int .i64 P, .slice (some ax) l.length c] 24)) 24 #[.int .i64 0, .slice none 0 0]
    simpa using this
  have hz := hBW.size
  have t1 : ¬ (400 : Int) < 2 * (l.length : Int) := by omega
  have t2 : IntKind.i64.wrap (2 * (l.length : Int)) = 2 * (l.length : Int) := IntWalk.i64_in _ (by omega)
  go_enter Try.func24, Try.ntmps24
  go_wp2_with (first
    | (go_at_call 17; rw [← hW1.out]; refine (sheetRef_any P _ l c _ H (hr.below' hBW hH) (by omega) HW.out (by omega)).mono ?_; rintro e w1 ⟨rfl, hB1⟩; rw [HC.out]
       have kA1 := kA.below' hB1
       have kR1 := kR.below' hB1
       have c0 := kA1.cell 0 _ rfl
       have c1 := kA1.cell 1 _ rfl
       have n1 := kA1.lt
       have n2 := kR1.lt
       have hB1' := hBW.trans (hB1.mono hz)
       have hz1 := hB1'.size)
    | fail)
  clear t1 t2
  go_loopw [8] (fun i wr => ∃ (j : Nat) (v : Value), j ≤ 2 ∧ i = .int .i64 j ∧ Blk wr w.heap.size 24 #[.int .i64 P, .slice (some ax) l.length c] ∧ Blk wr (w.heap.size + 1) 24 #[.int .i64 0, .slice none 0 0] ∧ Blk wr w1.heap.size 24 #[.int .i64 P, v] ∧ Own 3 Tri.enc wr (w1.heap.size + 1) 57 v (rep l j) ∧ Below w.heap.size w wr) (fun i _ => 2 - (intOf i).toNat)
  case atStart => exact ⟨0, .slice none 0 0, by omega, rfl, kA1.alloc _, kR1.alloc _, Blk.new _ _ _, Own.nil _ _ _, hB1'.alloc hz1 _⟩
  case round =>
    obtain ⟨j, v, hj, rfl, hA, hR, hS, hown, hB⟩ := hrel
    have hlenr := rep_len l j
    have hlr : (rep l j).length ≤ 120 := by rw [hlenr]; have := Nat.mul_le_mul hj hl; omega
    obtain ⟨Av, cv, rfl, hcv, hrd⟩ := Own.rd tri_len hown
    have hzr := hB.size
    have a1 := hA.cell 1 _ rfl
    have s0 := hS.cell 0 _ rfl
    have s1 := hS.cell 1 _ rfl
    have an := hA.lt
    have sn := hS.lt
    have sf := hS.frozen 1
    have hrr := hr.below' hB hH
    clear hlenr
    by_cases hlt : j < 2
    · have k1 : (j : Int) < 2 := by omega
      have HREP : Hid (rep l j ++ l = rep l (j + 1)) := rfl
      have hS2' := hown
      go_wp2_with (first
        | (at_builtin; refine wpList_append_own _ rfl (.tmp 38) (.tmp 40) _ rfl (w1.heap.size + 1) _ i0 _ 3 32 Try.underlying22 hi0 hz0' hz1' hz2' rfl (by omega) (.slice Av (rep l j).length cv) (rep l j).length ((rep l j).flatMap Tri.enc) rfl hown ax l.length c (l.flatMap Tri.enc) rfl (flat_len l) (rdT_news' hrr) (flat_one l) (by unfold maxLen; omega) (by omega) (by omega) ?_
           intro v8 w8 hown8 hg8 _
           obtain ⟨A8, n8, c8, rfl⟩ : ∃ A n c, v8 = .slice A n c := by
             rcases hown8.2 with ⟨h, _⟩ | ⟨g, cap, cur, h, _⟩
             · exact ⟨_, _, _, h⟩
             · exact ⟨_, _, _, h⟩
           have kS8 := hS.grown hg8 (Own.ne_block hown hS (by decide))
           have g3 := kS8.cell 1 _ rfl
           have g4 := kS8.frozen 1
           have g5 := kS8.lt)
        | fail)
      have hA8 := hA.grown hg8 (Own.ne_block hown hA (by decide))
      have hR8 := hR.grown hg8 (Own.ne_block hown hR (by decide))
      have hB8 : Below w.heap.size w w8 := Own.grown (hown.base (base' := w.heap.size) (by omega)) hB hg8 hzr
      have hown9 : Own 3 Tri.enc w8 (w1.heap.size + 1) 57 (.slice A8 n8 c8) (rep l (j + 1)) := by
        unfold Own
        rw [← HREP.out, List.length_append, List.flatMap_append]; exact hown8
      go_roundw
      case rel => exact ⟨j + 1, .slice A8 n8 c8, by omega, by go_num, hA8.far (by show w.heap.size ≠ w1.heap.size; omega) _, hR8.far (by show w.heap.size + 1 ≠ w1.heap.size; omega) _, by simpa using kS8.set_ 1 (.slice A8 n8 c8), ownsRow_setCell_below hown9 (by simp) _, hB8.setCell hz1 _⟩
      case measure => simp [intOf]; omega
    · have e2 : j = 2 := by omega
      subst e2
      have e3 : rep l 2 = l ++ l := by simp [rep]
      rw [e3] at hown hS hcv
      have q0 := hR.frozen 0
      have q1 := hR.frozen 1
      have r0 := hR.cell 0 _ rfl
      have r1 := hR.cell 1 _ rfl
      have rl := hR.lt
      generalize hLL : l ++ l = LL at *
      have s1 := hS.cell 1 _ rfl
      go_wp2_with fail
      (try simp only [Exit.inBlock, Exit.then])
      refine sheet_ret2 rfl rfl (g := w.heap.size + 1) (x := .int .i64 P) (y := .slice Av LL.length cv) (by simpa using (hR.set_ 0 (.int .i64 P)).set_ 1 (.slice Av LL.length cv)) rfl ?_
      subst hLL
      exact ⟨Av, cv, rfl, Own.base (ownsRow_setCell_below (ownsRow_setCell_below hown (by simp; omega) _) (by simp; omega) _) (by omega), by (repeat' first | assumption | exact Below.refl _ _ | apply Below.drew | (refine Below.setCells ?_ _ _ ?_) | (refine Below.setCell ?_ ?_ _) | (refine Below.alloc ?_ ?_ _) | (simp; done) | (simp; omega))⟩

set_option maxRecDepth 100000 in
set_option maxHeartbeats 2000000 in
theorem times_none (P : Int) (w : World) (H : Nat) (hH : H ≤ w.heap.size) (h2 : 2 ≤ P) (h24 : P ≤ 24) :
    Calls Try.prog 24 #[.agg #[.int .i64 P, .slice none 0 0], .int .i64 2] w fun e w' => ∃ (A' : Option Addr) (c' : Nat), e = .returned (.tuple #[.agg #[.int .i64 P, .slice A' ([] : List Tri).length c'], .int .i64 0]) ∧ Own 3 Tri.enc w' w.heap.size 57 (.slice A' ([] : List Tri).length c') ([] : List Tri) ∧ Below w.heap.size w w' := by
  obtain ⟨i0, hi0, hz0', hz1', hz2'⟩ := info_parts infoWork
  have HC := Lib.hid (sheetE_of (L := []) h2 h24 (by simp) (by simp))
  obtain ⟨W1, hW1⟩ : ∃ W1, Hid (W1 = (w.alloc (.cells #[.int .i64 P, .slice none 0 0] 24)).alloc (.cells #[.int .i64 0, .slice none 0 0] 24)) := ⟨_, Lib.hid rfl⟩
  have hBW : Below w.heap.size w W1 := by rw [hW1.out]; (repeat' first | exact Below.refl _ _ | apply Below.drew | (refine Below.setCells ?_ _ _ ?_) | (refine Below.setCell ?_ ?_ _) | (refine Below.alloc ?_ ?_ _) | (simp; done) | (simp; omega))
  have kA : Blk W1 w.heap.size 24 #[.int .i64 P, .slice none 0 0] := by rw [hW1.out]; exact (Blk.new w _ _).alloc _
  have kR : Blk W1 (w.heap.size + 1) 24 #[.int .i64 0, .slice none 0 0] := by
    rw [hW1.out]
    have := Blk.new (w.alloc (.cells #[.int .i64 P, .slice none 0 0] 24)) 24 #[.int .i64 0, .slice none 0 0]
    simpa using this
  have hz := hBW.size
  go_enter Try.func24, Try.ntmps24
  go_wp2_with (first
    | (go_at_call 17; rw [← hW1.out]; refine (sheetRef_any P none [] 0 _ H Rd.nil (by omega) (by simp) (by simp)).mono ?_; rintro e w1 ⟨rfl, hB1⟩; rw [HC.out]
       have kA1 := kA.below' hB1
       have kR1 := kR.below' hB1
       have c0 := kA1.cell 0 _ rfl
       have c1 := kA1.cell 1 _ rfl
       have n1 := kA1.lt
       have n2 := kR1.lt
       have hB1' := hBW.trans (hB1.mono hz)
       have hz1 := hB1'.size)
    | fail)
  go_loopw [8] (fun i wr => ∃ (j : Nat) (v : Value), j ≤ 2 ∧ i = .int .i64 j ∧ Blk wr w.heap.size 24 #[.int .i64 P, .slice none 0 0] ∧ Blk wr (w.heap.size + 1) 24 #[.int .i64 0, .slice none 0 0] ∧ Blk wr w1.heap.size 24 #[.int .i64 P, v] ∧ Own 3 Tri.enc wr (w1.heap.size + 1) 57 v ([] : List Tri) ∧ Below w.heap.size w wr) (fun i _ => 2 - (intOf i).toNat)
  case atStart => exact ⟨0, .slice none 0 0, by omega, rfl, kA1.alloc _, kR1.alloc _, Blk.new _ _ _, Own.nil _ _ _, hB1'.alloc hz1 _⟩
  case round =>
    obtain ⟨j, v, hj, rfl, hA, hR, hS, hown, hB⟩ := hrel
    obtain ⟨Av, cv, hvv, hcv, hrd⟩ := Own.rd tri_len hown
    rw [List.length_nil] at hvv
    subst hvv
    have hzr := hB.size
    have a1 := hA.cell 1 _ rfl
    have s0 := hS.cell 0 _ rfl
    have s1 := hS.cell 1 _ rfl
    have an := hA.lt
    have sn := hS.lt
    have sf := hS.frozen 1
    by_cases hlt : j < 2
    · have k1 : (j : Int) < 2 := by omega
      go_wp2_with (first
        | (at_builtin; refine wpList_append_own_none rfl (.tmp 38) (.tmp 40) _ rfl (w1.heap.size + 1) _ i0 3 Try.underlying22 hi0 (.slice Av 0 cv) 0 [] rfl hown rfl ?_)
        | fail)
      go_roundw
      case rel => exact ⟨j + 1, .slice Av 0 cv, by omega, by go_num, hA.far (by show w.heap.size ≠ w1.heap.size; omega) _, hR.far (by show w.heap.size + 1 ≠ w1.heap.size; omega) _, by simpa using hS.set_ 1 (.slice Av 0 cv), ownsRow_setCell_below hown (by simp) _, hB.setCell hz1 _⟩
      case measure => simp [intOf]; omega
    · have e2 : j = 2 := by omega
      subst e2
      have q0 := hR.frozen 0
      have q1 := hR.frozen 1
      have r0 := hR.cell 0 _ rfl
      have r1 := hR.cell 1 _ rfl
      have rl := hR.lt
      have s1 := hS.cell 1 _ rfl
      go_wp2_with fail
      (try simp only [Exit.inBlock, Exit.then])
      refine sheet_ret2 rfl rfl (g := w.heap.size + 1) (x := .int .i64 P) (y := .slice Av 0 cv) (by simpa using (hR.set_ 0 (.int .i64 P)).set_ 1 (.slice Av 0 cv)) rfl ?_
      exact ⟨Av, cv, rfl, Own.base (ownsRow_setCell_below (ownsRow_setCell_below hown (by simp; omega) _) (by simp; omega) _) (by omega), by (repeat' first | assumption | exact Below.refl _ _ | apply Below.drew | (refine Below.setCells ?_ _ _ ?_) | (refine Below.setCell ?_ ?_ _) | (refine Below.alloc ?_ ?_ _) | (simp; done) | (simp; omega))⟩
end Go.Proofs.Ytogkgoabonbkkaa
