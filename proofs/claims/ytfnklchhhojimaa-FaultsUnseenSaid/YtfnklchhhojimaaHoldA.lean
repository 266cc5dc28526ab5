/- torchonref03: crossing, crossings and Crossings of one letter; rows of numbers. -/
import Derived.Test.YtfnklchhhojimaaHoldM
import Derived.Test.YtfnklchhhojimaaBrdW
import Derived.Test.YtfnklchhhojimaaOldB
import Derived.Laws.AppendOwnNone
set_option linter.unusedSimpArgs false
set_option linter.unusedVariables false
namespace Go.Proofs.Ytfnklchhhojimaa
open Go Go.RowKit Tor Brd

theorem flatI : ∀ l : List Int, l.flatMap ienc = l.map (Value.int .i64)
  | [] => rfl
  | x :: r => by rw [List.flatMap_cons, flatI r]; rfl
theorem newsI {w : World} {B : Nat} {b o : Nat} {l : List Int} (hl : l ≠ []) (h : RdI w B (some ⟨b, o, none⟩) l) : ∀ (j : Nat) u, (l.flatMap ienc)[j]? = some u → w.cell? (Addr.add ⟨b, o, none⟩ j) = some u := by
  intro j u hu
  obtain ⟨b', o', e, _, hc⟩ := h hl
  injection e with e
  injection e with e1 e2 _
  subst e1; subst e2
  rw [flatI, List.getElem?_map] at hu
  cases hj : l[j]? with
  | none => rw [hj] at hu; cases hu
  | some x =>
    rw [hj] at hu
    cases hu
    have := hc j x hj 0 _ rfl
    rw [Go.WideShapes.add_plain]
    simpa using this
/-- a slice of numbers (nil has no capacity) is appended to an owned row -/
theorem wpList_append_ns {P : Program} {w : World} {ops : Array Oper} {rest : List Oper} {o : Oper} {a : Act} {Q : Exit → Act → World → Prop} (hgd : o.guard = none) (s x : Operand) (t : TypeId)
    (ho : o.op = .call { callee := .builtin .append, args := #[s, x], argTypes := #[t, t] })
    (base : Nat) (e : TypeId) (i : TypeInfo) (ht : P.underlying t = some (.slice e)) (hi : P.info? e = some i) (hz : i.zero = some (.int .i64 0)) (hsize : i.size = 1) (hby : i.bytes = 8)
    (v : Value) (l m : List Int) (hs : a.eval s = v) (hown : Tor.Own 1 ienc w base e v l) (A : Option Addr) (c B : Nat) (hx : a.eval x = .slice A m.length c) (hr : RdI w B A m) (hm : m = [] → A = none ∧ c = 0)
    (hlen : l.length ≤ 1000000) (hlen2 : m.length ≤ 1000000) (hbase : base ≤ w.heap.size)
    (h : ∀ v' w', Tor.Own 1 ienc w' base e v' (l ++ m) → w.grownBy w' v.ownBlock → wpList P ops Q rest (a.put o.dst v') w') : wpList P ops Q (o :: rest) a w := by
  by_cases hm0 : m = []
  · obtain ⟨rfl, rfl⟩ := hm hm0
    subst hm0
    exact wpList_append_own_none hgd s x t ho base e i 1 ht hi v l.length (l.flatMap ienc) hs hown hx (h v w (by simpa using hown) (World.grownBy.refl _ _))
  · obtain ⟨b, off, rfl, _, _⟩ := hr hm0
    have hf : (m.flatMap ienc).length = m.length * 1 := by rw [flatI, List.length_map, Nat.mul_one]
    refine wpList_append_own w hgd s x t ho base e i (.int .i64 0) 1 8 ht hi hz hsize hby rfl (by omega) v l.length (l.flatMap ienc) hs hown ⟨b, off, none⟩ m.length c (m.flatMap ienc) hx hf (newsI hm0 hr) ?_ (by unfold maxLen; omega) (by omega) hbase
      (fun v' w' h2 h3 _ => h v' w' ?_ h3)
    · intro u hu
      obtain ⟨y, _, hu⟩ := List.mem_flatMap.1 hu
      exact int_one y u hu
    · unfold Tor.Own
      rw [List.flatMap_append, List.length_append]
      exact h2
theorem rdI_new (w : World) (l : List Int) (T : TypeId) (cs : Array Value) (hc : cs.toList = l.map (Value.int .i64)) : RdI (w.alloc (.cells cs T)) (w.heap.size + 1) (some ⟨w.heap.size, 0, none⟩) l := fun hl => by
  refine ⟨w.heap.size, 0, rfl, by omega, fun k x hk j u hu => ?_⟩
  have h := flatMap_get (sz := 1) (enc := ienc) (fun _ => rfl) l k x hk j u hu
  rw [flatI, ← hc] at h
  have := (Blk.new w T cs).cell (k * 1 + j) u (by simpa using h)
  rw [Nat.zero_add]; exact this

/-- a slice of the crossings of a letter -/
def CrRet (c : UInt8) (w : World) (e : Ending) (w' : World) : Prop :=
  ∃ A cap, e = .returned (.slice A (cwL 0 c).length cap) ∧ (cwL 0 c = [] → A = none ∧ cap = 0) ∧ RdI w' w'.heap.size A (cwL 0 c) ∧ Below w.heap.size w w'
theorem cr_ret {c : UInt8} {w : World} {l : List Int} (h : cwL 0 c = l) (hl : l ≠ []) {T : TypeId} {cs : Array Value} (hc : cs.toList = l.map (Value.int .i64)) (n : Nat) (hn : n = l.length) : CrRet c w (.returned (.slice (some ⟨w.heap.size, 0, none⟩) n n)) (w.alloc (.cells cs T)) := by
  subst hn
  unfold CrRet
  rw [h]
  refine ⟨_, _, rfl, fun e => absurd e hl, ?_, by (repeat' first | exact Below.refl _ _ | apply Below.drew | (refine Below.setCells ?_ _ _ ?_) | (refine Below.setCell ?_ ?_ _) | (refine Below.alloc ?_ ?_ _) | (simp; done) | (simp; omega))⟩
  rw [World.size_alloc]
  exact rdI_new w l T cs hc
theorem u8f {c k : UInt8} (h : c ≠ k) : ((c.toNat : Int) == (k.toNat : Int)) = false := by
  rw [beq_eq_false_iff_ne]
  intro e
  exact h (UInt8.toNat_inj.1 (by omega))

set_option maxRecDepth 100000 in
theorem crossing3_any (c : UInt8) (w : World) : Calls Try.prog 80 #[.int .u8 c.toNat] w (CrRet c w) := by
  by_cases h1 : c = 67
  · subst h1
    go_enter Try.func80, Try.ntmps80
    go_wp2_with fail
    go_ret
    exact cr_ret (l := [2]) (by decide) (by decide) rfl 1 rfl
  by_cases h2 : c = 76
  · subst h2
    go_enter Try.func80, Try.ntmps80
    go_wp2_with fail
    go_ret
    exact cr_ret (l := [-1]) (by decide) (by decide) rfl 1 rfl
  by_cases h3 : c = 82
  · subst h3
    go_enter Try.func80, Try.ntmps80
    go_wp2_with fail
    go_ret
    exact cr_ret (l := [-3]) (by decide) (by decide) rfl 1 rfl
  by_cases h4 : c = 84
  · subst h4
    go_enter Try.func80, Try.ntmps80
    go_wp2_with fail
    go_ret
    exact cr_ret (l := [-1, -3]) (by decide) (by decide) rfl 2 rfl
  by_cases h5 : c = 99
  · subst h5
    go_enter Try.func80, Try.ntmps80
    go_wp2_with fail
    go_ret
    exact cr_ret (l := [-2]) (by decide) (by decide) rfl 1 rfl
  by_cases h6 : c = 108
  · subst h6
    go_enter Try.func80, Try.ntmps80
    go_wp2_with fail
    go_ret
    exact cr_ret (l := [1]) (by decide) (by decide) rfl 1 rfl
  by_cases h7 : c = 114
  · subst h7
    go_enter Try.func80, Try.ntmps80
    go_wp2_with fail
    go_ret
    exact cr_ret (l := [3]) (by decide) (by decide) rfl 1 rfl
  by_cases h8 : c = 116
  · subst h8
    go_enter Try.func80, Try.ntmps80
    go_wp2_with fail
    go_ret
    exact cr_ret (l := [1, 3]) (by decide) (by decide) rfl 2 rfl
  · have e0 : cwL 0 c = [] := by simp [cwL, h1, h2, h3, h4, h5, h6, h7, h8]
    have z1 : ((c.toNat : Int) == 67) = false := u8f h1
    have z2 : ((c.toNat : Int) == 76) = false := u8f h2
    have z3 : ((c.toNat : Int) == 82) = false := u8f h3
    have z4 : ((c.toNat : Int) == 84) = false := u8f h4
    have z5 : ((c.toNat : Int) == 99) = false := u8f h5
    have z6 : ((c.toNat : Int) == 108) = false := u8f h6
    have z7 : ((c.toNat : Int) == 114) = false := u8f h7
    have z8 : ((c.toNat : Int) == 116) = false := u8f h8
    have E0 := Lib.hid e0
    clear e0 h1 h2 h3 h4 h5 h6 h7 h8
    go_enter Try.func80, Try.ntmps80
    go_wp2_with fail
    go_ret
    unfold CrRet
    rw [E0.out]
    exact ⟨none, 0, rfl, fun _ => ⟨rfl, rfl⟩, Rd.nil, Below.refl _ _⟩

/-- a string of one letter -/
def oneB (c : UInt8) : ByteArray := ⟨#[c]⟩
/-- a slice of the crossings of a letter, nil or not -/
def CrsRet (c : UInt8) (w : World) (e : Ending) (w' : World) : Prop :=
  ∃ A cap, e = .returned (.slice A (cwL 0 c).length cap) ∧ Tor.Own 1 ienc w' w.heap.size 3 (.slice A (cwL 0 c).length cap) (cwL 0 c) ∧ Below w.heap.size w w'
theorem infoI : (Try.prog.info? 3).map (fun i => (i.zero, i.size, i.bytes)) = some (some (.int .i64 0), 1, 8) := by kernel_rfl
theorem int_len : ∀ x : Int, (ienc x).length = 1 := fun _ => rfl
set_option maxRecDepth 100000 in
theorem crossings3_one (c : UInt8) (w : World) : Calls Try.prog 68 #[.string (oneB c)] w (CrsRet c w) := by
  obtain ⟨i0, hi0, hz0', hz1', hz2'⟩ := info_parts infoI
  have hs1 : (oneB c).size = 1 := rfl
  obtain ⟨s, hs⟩ : ∃ s, oneB c = s := ⟨_, rfl⟩
  rw [hs] at hs1 ⊢
  have hbs : ∀ (h : 0 < s.size), s[0]'h = c := by subst hs; intro _; rfl
  clear hs
  have hlt : (0 : Nat) < s.size := by omega
  have hb0 := hbs hlt
  have HC := Lib.hid (crossing3_any c)
  have HL := Lib.hid (cwL_small c).1
  clear hbs
  go_enter Try.func68, Try.ntmps68
  go_wp2_with fail
  go_loopw [3, 4] (fun v iv wr => ∃ k : Nat, k ≤ 1 ∧ iv = .int .i64 k ∧ Tor.Own 1 ienc wr w.heap.size 3 v (if k = 0 then [] else cwL 0 c) ∧ (k = 0 → v = .slice none 0 0) ∧ Below w.heap.size w wr) (fun _ iv _ => 1 - (intOf iv).toNat)
  case atStart => exact ⟨0, Nat.zero_le _, rfl, Tor.Own.nil _ _ _, fun _ => rfl, Below.refl _ _⟩
  case round =>
    obtain ⟨k, hk, rfl, hown, hv0, hB⟩ := hrel
    have hz := hB.size
    rcases (show k = 0 ∨ k = 1 by omega) with rfl | rfl
    · have hv := hv0 rfl
      subst hv
      clear hv0 hown
      go_wp2_with (first
        | (go_at_call 80; refine (HC.out _).mono ?_; rintro e w1 ⟨A1, c1, rfl, hn1, hr1, hB1⟩
           have hz1 := hB1.size)
        | (at_builtin; refine wpList_append_ns rfl (.tmp 11) (.tmp 15) _ rfl w.heap.size _ i0 Try.underlying38 hi0 hz0' hz1' hz2' (.slice none 0 0) [] (cwL 0 c) rfl (Tor.Own.nil _ _ _) A1 c1 w1.heap.size rfl hr1 hn1 (by simp) (by have := HL.out; omega) (by omega) ?_; intro v2 w2 ho2 hg2)
        | fail)
      go_roundw
      case rel =>
        exact ⟨1, by omega, by go_num, ho2, fun h => absurd h (by decide), Tor.Own.grown (W := w) (w := w1) (base := w.heap.size) (l := ([] : List Int)) (sz := 1) (enc := ienc) (e := 3) (v := .slice none 0 0) (Tor.Own.nil _ _ _) (hB.trans (hB1.mono hz)) hg2 (by omega)⟩
      case measure => simp [intOf]
    · clear hv0
      obtain ⟨A2, c2, rfl, _, _⟩ := Tor.Own.rd int_len hown
      go_wp2_with fail
      go_ret
      exact ⟨A2, c2, rfl, hown, hB⟩
theorem wordE_one {c : UInt8} (h : isLetter c = true) : wordE (oneB c) = 0 := by
  unfold wordE
  rw [if_neg (by show ¬ 16 < 1; omega)]
  simp [oneB, h]
set_option maxRecDepth 100000 in
theorem ccrossings3_one (c : UInt8) (hc : isLetter c = true) (w : World) : Calls Try.prog 47 #[.string (oneB c)] w (fun e w' => ∃ A cap, e = .returned (.tuple #[.slice A (cwL 0 c).length cap, .int .i64 0]) ∧ Tor.Own 1 ienc w' w.heap.size 3 (.slice A (cwL 0 c).length cap) (cwL 0 c) ∧ Below w.heap.size w w') := by
  have H1 := Lib.hid (by have := wordRef_any (oneB c) w (by show (1 : Nat) ≤ _; omega); rw [wordE_one hc] at this; exact this : Calls Try.prog 44 #[.string (oneB c)] w (Ret (.int .i64 0) w))
  have H2 := Lib.hid (crossings3_one c)
  clear hc
  generalize oneB c = s at *
  go_enter Try.func47, Try.ntmps47
  go_wp2_with (first
    | (go_at_call 44; refine H1.out.mono ?_; rintro e w1 ⟨rfl, hB1⟩)
    | (go_at_call 68; refine (H2.out _).mono ?_; rintro e w2 ⟨A2, c2, rfl, hr2, hB2⟩)
    | fail)
  go_ret2
  exact ⟨A2, c2, rfl, hr2.base hB1.size, hB1.trans (hB2.mono hB1.size)⟩
end Go.Proofs.Ytfnklchhhojimaa
