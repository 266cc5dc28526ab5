/- torchonlaw25: Example, awake; the law FaultsAlike, walked. -/
import Derived.Test.YtfnklchhhojimaaSeen2
set_option linter.unusedSimpArgs false
set_option linter.unusedVariables false
namespace Go.Proofs.Ytfnklchhhojimaa
open Go Go.RowKit Tor

def exF : List Tri := [⟨1, 0, ⟨#[]⟩⟩, ⟨2, 0, ⟨#[67, 84, 67]⟩⟩, ⟨2, 2, ⟨#[67, 84]⟩⟩, ⟨2, 1, ⟨#[67]⟩⟩]
def exA : List Tri := [⟨1, 0, ⟨#[]⟩⟩, ⟨2, 0, ⟨#[67, 84, 67]⟩⟩, ⟨2, 2, ⟨#[67, 84, 80]⟩⟩, ⟨2, 1, ⟨#[67]⟩⟩]
theorem ex1 : putR 4 4 exF ⟨2, 2, 2, 80⟩ = (exA, 0) := by decide +kernel
theorem ex2 : seenR 4 4 exF ⟨6, 1, 0, 0⟩ = (false, 0) := by decide +kernel
theorem ex3 : seenR 4 4 exF ⟨6, 2, 0, 0⟩ = (true, 0) := by decide +kernel
theorem exF_words : ∀ (k : Nat) (hk : k < exF.length), exF[k].s.size ≤ 9223372036854775807 := by
  have h : ∀ k : Fin 4, (exF[k.1]'(k.2)).s.size ≤ 9223372036854775807 := by decide
  exact fun k hk => h ⟨k, hk⟩

theorem rd_new (w : World) (l : List Tri) (T : TypeId) (cs : Array Value) (hc : cs.toList = l.flatMap Tri.enc) : RdT (w.alloc (.cells cs T)) (w.heap.size + 1) (some ⟨w.heap.size, 0, none⟩) l := fun hl => by
  refine ⟨w.heap.size, 0, rfl, by omega, fun k x hk j u hu => ?_⟩
  have h := flatMap_get (sz := 3) (enc := Tri.enc) tri_len l k x hk j u hu
  rw [← hc] at h
  have := (Blk.new w T cs).cell (k * 3 + j) u (by simpa using h)
  rw [Nat.zero_add]; exact this

set_option maxRecDepth 100000 in
theorem example_any (w : World) : Calls Try.prog 10 #[] w fun e w' => ∃ A, e = .returned (.slice A 4 4) ∧ RdT w' w'.heap.size A exF ∧ Below w.heap.size w w' := by
  go_enter Try.func10, Try.ntmps10
  go_wp2_with fail
  go_ret
  refine ⟨_, rfl, ?_, by (repeat' first | exact Below.refl _ _ | apply Below.drew | (refine Below.setCells ?_ _ _ ?_) | (refine Below.setCell ?_ ?_ _) | (refine Below.alloc ?_ ?_ _) | (simp; done) | (simp; omega))⟩
  rw [World.size_alloc]
  exact rd_new w exF _ _ rfl


set_option maxRecDepth 100000 in
set_option maxHeartbeats 2000000 in
theorem awake_any (w : World) : Calls Try.prog 4 #[] w (Ret (.bool true) w) := by
  have H1 := Lib.hid (fun (w' : World) (A : Option Addr) (hr : RdT w' w'.heap.size A exF) => (by have := fput_any 4 4 A exF 4 ⟨2, 2, 2, 80⟩ w' _ hr (Nat.le_refl _) exF_words (by decide); rw [ex1] at this; exact this : Calls Try.prog 6 #[.int .i64 4, .int .i64 4, .slice A 4 4, .agg #[.int .i64 2, .int .i64 2, .int .i64 2, .int .i64 80]] w' (PutRet w' exA 0)))
  have H2 := Lib.hid (fun (w' : World) (A : Option Addr) (hr : RdT w' w'.heap.size A exF) => (by have := fseen_any 4 4 A exF 4 ⟨6, 1, 0, 0⟩ w' _ hr (Nat.le_refl _) exF_words (by decide) (by decide); rw [ex2] at this; exact this : Calls Try.prog 5 #[.int .i64 4, .int .i64 4, .slice A 4 4, .agg #[.int .i64 6, .int .i64 1, .int .i64 0, .int .i64 0]] w' (Ret (.tuple #[.bool false, .int .i64 0]) w')))
  have H3 := Lib.hid (fun (w' : World) (A : Option Addr) (hr : RdT w' w'.heap.size A exF) => (by have := fseen_any 4 4 A exF 4 ⟨6, 2, 0, 0⟩ w' _ hr (Nat.le_refl _) exF_words (by decide) (by decide); rw [ex3] at this; exact this : Calls Try.prog 5 #[.int .i64 4, .int .i64 4, .slice A 4 4, .agg #[.int .i64 6, .int .i64 2, .int .i64 0, .int .i64 0]] w' (Ret (.tuple #[.bool true, .int .i64 0]) w')))
  go_enter Try.func4, Try.ntmps4
  have tk1 : True := trivial
  have tk2 : True := trivial
  go_wp2_with (first
    | (go_at_call 10; have := tk1; refine (example_any w).mono ?_; rintro e w1 ⟨A1, rfl, hr1, hB1⟩; clear tk1)
    | (go_at_call 6; refine (H1.out w1 A1 hr1).mono ?_; rintro e w2 ⟨A2, c2, rfl, hr2, hB2⟩
       have hB2' := hB1.trans (hB2.mono hB1.size)
       obtain ⟨b2, o2, rfl, hb2, h20, h21, h22⟩ := Rd.tri hr2 (k := 2) (by decide)
       have e22 : exA[2].s = ⟨#[67, 84, 80]⟩ := rfl
       rw [e22] at h22)
    | (go_at_call 10; have := tk2; refine (example_any w2).mono ?_; rintro e w3 ⟨A3, rfl, hr3, hB3⟩; clear tk2
       have hB3' := hB2'.trans (hB3.mono hB2'.size))
    | (go_at_call 5; refine (H2.out w3 A3 hr3).mono ?_; rintro e w4 ⟨rfl, hB4⟩; clear H2
       have hB4' := hB3'.trans (hB4.mono hB3'.size))
    | (go_at_call 10; refine (example_any w4).mono ?_; rintro e w5 ⟨A5, rfl, hr5, hB5⟩
       have hB5' := hB4'.trans (hB5.mono hB4'.size))
    | (go_at_call 5; refine (H3.out w5 A5 hr5).mono ?_; rintro e w6 ⟨rfl, hB6⟩
       have hB6' := hB5'.trans (hB6.mono hB5'.size)
       have hBQ : Below w2.heap.size w2 w6 := ((hB3.trans (hB4.mono hB3.size)).trans (hB5.mono (hB3.trans (hB4.mono hB3.size)).size)).trans (hB6.mono ((hB3.trans (hB4.mono hB3.size)).trans (hB5.mono (hB3.trans (hB4.mono hB3.size)).size)).size)
       have g22 := (hBQ.cell (p := ⟨b2, _, none⟩) hb2).trans h22)
    | fail)
  go_ret
  exact Ret.val rfl hB6'
end Go.Proofs.Ytfnklchhhojimaa
