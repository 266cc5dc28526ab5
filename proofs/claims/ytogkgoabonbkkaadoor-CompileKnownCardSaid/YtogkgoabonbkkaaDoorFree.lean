/- compile.planner.free. -/
import Derived.Test.YtogkgoabonbkkaaDoorQuick3
import Derived.Test.YtogkgoabonbkkaaDoorBits
set_option linter.unusedSimpArgs false
set_option linter.unusedVariables false
namespace Go.Proofs.YtogkgoabonbkkaaDoor
open Go Go.RowKit Tor

/-- may work i be done next? (d: what is done; f: what must be done before) -/
def freeB (bf : List Nat) (d i : Nat) : Bool := !d.testBit i && decide (dif (bf.getD i 0) d = 0)

theorem free_any (pb : Nat) (sp : Value) (s : Int) (mp : Value) (Ab : Option Addr) (bf : List Nat) (cb : Nat) (d : Nat) (lo hi : Int) (i : Nat) (w : World) (H : Nat) (hr : RdN w H Ab bf)
    (hp : w.cell? ⟨pb, 2, none⟩ = some (.slice Ab bf.length cb)) (hib : i < bf.length) (hn : bf.length ≤ 10) (hd : d < 1024) (hb : ∀ k, k < bf.length → bf.getD k 0 < 1024) :
    Calls Tryd.prog 49 #[.pointer (some ⟨pb, 0, none⟩), .agg #[.int .i64 d, .int .i64 lo, .int .i64 hi], .int .i64 i] w (Ret (.bool (freeB bf d i)) w) := by
  have i0 : (0 : Int) ≤ (i : Int) := by omega
  have i1 : (i : Int) < (bf.length : Int) := by omega
  have i2 : (i : Int) ≤ 64 := by omega
  have hx : bf[i]? = some (bf.getD i 0) := by rw [List.getD_eq_getElem?_getD, List.getElem?_eq_getElem hib]; rfl
  obtain ⟨b, o, rfl, hbH, hcell⟩ := hr (by intro e; subst e; simp at hib)
  have hc := hcell i _ hx 0 _ rfl
  rw [Nat.mul_one, Nat.add_zero] at hc
  obtain ⟨x, hX⟩ : ∃ x, Hid (bf.getD i 0 = x) := ⟨_, rfl⟩
  rw [hX.out] at hc
  clear hx hcell hr
  have l1 := lt_of_cell hp
  have l2 := lt_of_cell hc
  have hX2 := Lib.hid (hb i hib)
  have hg := shr_test d i (by omega)
  cases hbit : d.testBit i
  all_goals
    rw [hbit] at hg
    go_enter Tryd.func49, Tryd.ntmps49
    go_wp2
    go_quiet (fail)
    go_wp2
    go_ret
  · exact Ret.bool (by rw [freeB, hbit, hX.out, bnot_test x d (by have := hX2.out; rw [hX.out] at this; omega) (by omega)]; rfl) (((Below.refl _ _).alloc (Nat.le_refl _) _).drewN _)
  · exact Ret.bool (by rw [freeB, hbit]; rfl) (((Below.refl _ _).alloc (Nat.le_refl _) _).drewN _)
end Go.Proofs.YtogkgoabonbkkaaDoor
