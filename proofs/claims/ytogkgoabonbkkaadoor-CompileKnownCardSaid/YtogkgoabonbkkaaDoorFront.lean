/- rows.front. -/
import Derived.Test.YtogkgoabonbkkaaDoorCsteps
set_option linter.unusedSimpArgs false
set_option linter.unusedVariables false
namespace Go.Proofs.YtogkgoabonbkkaaDoor
open Go Go.RowKit Tor

def nenc (i : Nat) : List Value := [.int .i64 i]
abbrev RdN := Rd 1 nenc
theorem RdN.head {w : World} {B : Nat} {A : Option Addr} {x : Nat} {l : List Nat} (h : RdN w B A (x :: l)) : ∃ b o, A = some ⟨b, o, none⟩ ∧ b < B ∧ w.cell? ⟨b, o, none⟩ = some (.int .i64 x) := by
  obtain ⟨b, o, e, hb, hc⟩ := h (by simp)
  exact ⟨b, o, e, hb, by simpa using hc 0 x rfl 0 _ rfl⟩

def frontZ (l m : List Nat) : Int := match l, m with
  | x :: _, y :: _ => if x = y then x else -1
  | _, _ => -1

theorem RdN.head' {w : World} {B : Nat} {A : Option Addr} {x : Nat} {l l' : List Nat} (h : RdN w B A l) (e : l = x :: l') : ∃ b o, A = some ⟨b, o, none⟩ ∧ b < B ∧ w.cell? ⟨b, o, none⟩ = some (.int .i64 x) := by
  subst e; exact h.head

theorem front_any (R a : Nat) (l m : List Nat) (A1 A2 : Option Addr) (c1 c2 : Nat) (w : World) (B : Nat)
    (hR0 : w.cell? ⟨R, a, none⟩ = some (.slice A1 l.length c1)) (hR1 : w.cell? ⟨R, a + 1, none⟩ = some (.slice A2 m.length c2)) (h1 : RdN w B A1 l) (h2 : RdN w B A2 m)
    (ha : a + 1 < 24) (hl : l.length ≤ 1000) (hm : m.length ≤ 1000) :
    Calls Tryd.prog 33 #[.pointer (some ⟨R, 0, none⟩), .int .i64 a] w (Ret (.int .i64 (frontZ l m)) w) := by
  have e1 : IntKind.i64.wrap ((a : Int) + 1) = (a : Int) + 1 := IntWalk.i64_in _ (by omega)
  have e2 : ((a : Int) + 1).toNat = a + 1 := by omega
  by_cases hl0 : l = []
  · have HL := Lib.hid hl0
    have d1 : decide (0 < l.length) = false := by simp [hl0]
    clear hl0
    go_enter Tryd.func33, Tryd.ntmps33
    go_wp2
    go_quiet (fail)
    clear e1 e2
    go_wp2
    go_quiet (fail)
    go_wp2
    go_ret
    exact Ret.int (by simp [frontZ, HL.out]) (by first | exact (Below.refl _ _).drewN _ | exact ((Below.refl _ _).drewN _).drewN _)
  · obtain ⟨x, l', hx⟩ := List.exists_cons_of_ne_nil hl0
    have HL := Lib.hid hx
    obtain ⟨b, o, rfl, hb, hxc⟩ := h1.head' hx
    have d1 : decide (0 < l.length) = true := by simp [hx]
    have p1 : 0 < l.length := by simp [hx]
    clear hl0 hx
    by_cases hm0 : m = []
    · have HM := Lib.hid hm0
      have d2 : decide (0 < m.length) = false := by simp [hm0]
      clear hm0
      go_enter Tryd.func33, Tryd.ntmps33
      go_wp2
      go_quiet (fail)
      clear e1 e2
      go_wp2
      go_quiet (fail)
      go_wp2
      go_ret
      exact Ret.int (by simp [frontZ, HL.out, HM.out]) (by first | exact (Below.refl _ _).drewN _ | exact ((Below.refl _ _).drewN _).drewN _)
    · obtain ⟨y, m', hy⟩ := List.exists_cons_of_ne_nil hm0
      have HM := Lib.hid hy
      obtain ⟨b', o', rfl, hb', hyc⟩ := h2.head' hy
      have d2 : decide (0 < m.length) = true := by simp [hy]
      have p2 : 0 < m.length := by simp [hy]
      clear hm0 hy
      by_cases hxy : x = y
      · have exy : ((x : Int) == (y : Int)) = true := by simp [hxy]
        have HE := Lib.hid hxy
        clear hxy
        go_enter Tryd.func33, Tryd.ntmps33
        go_wp2
        go_quiet (fail)
        clear e1 e2
        go_wp2
        go_quiet (fail)
        go_wp2
        go_ret
        exact Ret.int (by simp [frontZ, HL.out, HM.out, HE.out]) (by first | exact (Below.refl _ _).drewN _ | exact ((Below.refl _ _).drewN _).drewN _)
      · have exy : ((x : Int) == (y : Int)) = false := by simp; omega
        have HE := Lib.hid hxy
        clear hxy
        go_enter Tryd.func33, Tryd.ntmps33
        go_wp2
        go_quiet (fail)
        clear e1 e2
        go_wp2
        go_quiet (fail)
        go_wp2
        go_ret
        exact Ret.int (by simp [frontZ, HL.out, HM.out, HE.out]) (by first | exact (Below.refl _ _).drewN _ | exact ((Below.refl _ _).drewN _).drewN _)
end Go.Proofs.YtogkgoabonbkkaaDoor
