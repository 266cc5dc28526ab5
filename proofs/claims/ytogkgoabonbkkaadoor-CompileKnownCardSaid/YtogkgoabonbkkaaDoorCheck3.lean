/- compile.check, torchonref15.check, Hands; steps of works. -/
import Derived.Test.YtogkgoabonbkkaaDoorCheck2
set_option linter.unusedSimpArgs false
set_option linter.unusedVariables false
namespace Go.Proofs.YtogkgoabonbkkaaDoor
open Go Go.RowKit Tor

/-- what is wrong with a sheet and a span -/
def chkE (p : Int) (l : List Tri) (s : Int) : Int := if sheetE p l = 0 then (if spansB p s = true then 0 else 7) else sheetE p l

theorem chk_ok {p : Int} {l : List Tri} {s : Int} (h : sheetE p l = 0) (h2 : spansB p s = true) : chkE p l s = 0 := by simp [chkE, h, h2]
theorem chk_no {p : Int} {l : List Tri} {s : Int} (h : sheetE p l = 0) (h2 : spansB p s = false) : chkE p l s = 7 := by simp [chkE, h, h2]
theorem chk_e {p : Int} {l : List Tri} {s : Int} (h : ¬ sheetE p l = 0) : chkE p l s = sheetE p l := by simp [chkE, h]

theorem ccheck_any (p : Int) (A : Option Addr) (l : List Tri) (c : Nat) (s : Int) (b o : Nat) (w : World) (H : Nat) (hr : RdT w H A l) (hH : H ≤ w.heap.size) (hp : w.cell? ⟨b, o, none⟩ = some (.int .i64 p)) (hq : w.cell? ⟨b, o + 1, none⟩ = some (.slice A l.length c))
    (hw : ∀ (k : Nat) (hk : k < l.length), l[k].s.size ≤ 9223372036854775807) (hl : l.length ≤ 9223372036854775807) :
    Calls Tryd.prog 12 #[.pointer (some ⟨b, o, none⟩), .int .i64 s] w (Ret (.int .i64 (chkE p l s)) w) := by
  have HW := Lib.hid hw
  clear hw
  have hb0 := lt_of_cell hp
  by_cases h0 : sheetE p l = 0
  · have h0' : (sheetE p l == 0) = true := by simp [h0]
    have H0 := Lib.hid h0
    clear h0
    cases hs : spansB p s
    all_goals
      have HS := Lib.hid hs
      clear hs
      go_enter Tryd.func12, Tryd.ntmps12
      go_wp2_with (first | (go_at_call 32; refine (sheet_any p A l _ _ H hr hH HW.out hl).mono ?_; rintro e w1 ⟨rfl, hB⟩; have hp1 := (hB.cell (p := ⟨b, o, none⟩) hb0).trans hp) | (go_at_call 19; refine (cspans_any _ _ _).mono ?_; rintro e w2 ⟨rfl, hB2⟩; rw [HS.out]))
      go_ret
    · exact Ret.int (chk_no H0.out HS.out).symm (hB.trans (hB2.mono hB.size))
    · exact Ret.int ((chk_ok H0.out HS.out).trans H0.out.symm).symm (hB.trans (hB2.mono hB.size))
  · have h0' : (sheetE p l == 0) = false := by simp [h0]
    have H0 := Lib.hid h0
    clear h0
    go_enter Tryd.func12, Tryd.ntmps12
    go_wp2_with (first | (go_at_call 32; refine (sheet_any p A l _ _ H hr hH HW.out hl).mono ?_; rintro e w1 ⟨rfl, hB⟩))
    go_ret
    exact Ret.int (chk_e H0.out).symm hB


/-- Hands: the error of a number of pairs and a span -/
def handsE (p s : Int) : Int := if 2 ≤ p ∧ p ≤ 24 ∧ spansB p s = true then 0 else 7

/-- the step of a work -/
def stepOf (x : Tri) : Tri := if x.a = 2 then ⟨3, x.b, .empty⟩ else ⟨2, x.b, x.s⟩
def Tri.val (x : Tri) : Value := .agg #[.int .i64 x.a, .int .i64 x.b, .string x.s]

theorem step_any (x : Tri) (w : World) :
    Calls Tryd.prog 18 #[.agg #[.int .i64 x.a, .int .i64 x.b, .string x.s]] w (Ret (.agg #[.int .i64 (stepOf x).a, .int .i64 (stepOf x).b, .string (stepOf x).s]) w) := by
  by_cases h : x.a = 2
  · have h' : (x.a == 2) = true := by simp [h]
    have H := Lib.hid h
    clear h
    go_enter Tryd.func18, Tryd.ntmps18
    go_wp2
    refine bodyPost_ret (v := _) (by simp [results, Tryd.results18, go_sem]; rfl) rfl (Ret.val ?_ (((Below.refl _ _).alloc (Nat.le_refl _) _).alloc (by simp) _))
    simp [stepOf, H.out]
    rfl
  · have h' : (x.a == 2) = false := by simp [h]
    have H := Lib.hid h
    clear h
    go_enter Tryd.func18, Tryd.ntmps18
    go_wp2
    refine bodyPost_ret (v := _) (by simp [results, Tryd.results18, go_sem]; rfl) rfl (Ret.val ?_ (((Below.refl _ _).alloc (Nat.le_refl _) _).alloc (by simp) _))
    simp [stepOf, H.out]

end Go.Proofs.YtogkgoabonbkkaaDoor
