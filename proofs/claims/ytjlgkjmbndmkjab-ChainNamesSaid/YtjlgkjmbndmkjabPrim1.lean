/- Functions without a body: floats. -/
import Derived.Test.YtjlgkjmbndmkjabSound24
import Derived.Test.YtjlgkjmbndmkjabDevP
import Derived.Laws.Externs
import GoSem.Extern.MathFloor
import GoSem.Extern.MathFloatBits
set_option linter.all false
set_option linter.unusedVariables false
namespace Bz
open Go Go.RowKit

section
variable {P : Program} {ren : Nat → Option Nat} {g : Nat} {fn : Func}
/-- A function that is known to the machine, and changes nothing. -/
theorem prim_ext {p : List DV → Option DV} {e : Array Value → Sem Value} (hf : P.funcs[g]? = some fn) (hname : (fn.name == "runtime.NumGoroutine") = false) (hb : fn.body.isNone = true) (hn : Extern.findNext fn = none) (he : Extern.find fn = some e)
    (h : ∀ args r, p args = some r → ∀ (vals : List Value) (w : World) (A : Nat → Prop), RVL w (fun x => x < w.heap.size ∧ A x) ren vals args →
      ∃ v, (e vals.toArray).run P w = .ok v w ∧ RV w (fun x => x < w.heap.size ∧ A x) (fun _ => none) ren v r) : PrimOk P ren g p := by
  intro args r hp vals w A hv
  obtain ⟨v, h1, h2⟩ := h args r hp vals w A hv
  refine .inr ⟨v, w, by rw [run_callFunc_extern hf hname hb hn he, h1]; rfl, Below.refl _ _, [], by simp, by simp, ?_⟩
  exact .of (.of (.pure (h2.mono (fun x hx => ⟨hx.1, by simp, fun _ => hx.2⟩) (fun _ _ => rfl) (names_any _))))
theorem RVL.one {w : World} {G : Nat → Prop} {vals : List Value} {d : DV} (h : RVL w G ren vals [d]) : ∃ v, vals = [v] ∧ RV w G (fun _ => none) ren v d := by
  obtain ⟨h1, h2⟩ := h
  match vals, h1 with
  | [v], _ => exact ⟨v, rfl, h2 0 v d rfl rfl⟩
theorem feq_eq {b b' : Nat} (h : feq b b') (hn : isNaN b = false) : b = b' := by
  rcases h with h | h
  · exact h
  · rw [hn] at h; cases h.1

theorem f2bits_ok (hf : P.funcs[g]? = some fn) (hname : (fn.name == "runtime.NumGoroutine") = false) (hb : fn.body.isNone = true) (hn : Extern.findNext fn = none)
    (he : Extern.find fn = some Extern.MathFloatBits.float64bits) : PrimOk P ren g Bz.P.f2bits := by
  refine prim_ext hf hname hb hn he fun args r hp vals w A hv => ?_
  unfold Bz.P.f2bits at hp
  split at hp
  · rename_i b
    cases hb : isNaN b with
    | true => rw [hb] at hp; cases hp
    | false =>
      rw [hb, cond_false] at hp
      cases hp
      obtain ⟨v, rfl, hr⟩ := hv.one
      obtain ⟨b', rfl, hfe⟩ := hr.float_inv
      obtain rfl := feq_eq hfe hb
      exact ⟨.int .u64 b, rfl, .int _ _⟩
  · cases hp
theorem bits2f_ok (hf : P.funcs[g]? = some fn) (hname : (fn.name == "runtime.NumGoroutine") = false) (hb : fn.body.isNone = true) (hn : Extern.findNext fn = none)
    (he : Extern.find fn = some Extern.MathFloatBits.float64frombits) : PrimOk P ren g Bz.P.bits2f := by
  refine prim_ext hf hname hb hn he fun args r hp vals w A hv => ?_
  unfold Bz.P.bits2f at hp
  split at hp
  · rename_i n
    cases hp
    obtain ⟨v, rfl, hr⟩ := hv.one
    obtain rfl := hr.int_inv
    exact ⟨.float .f64 n.toNat, rfl, .float (.inl rfl)⟩
  · cases hp
theorem trunc_ok (hf : P.funcs[g]? = some fn) (hname : (fn.name == "runtime.NumGoroutine") = false) (hb : fn.body.isNone = true) (hn : Extern.findNext fn = none)
    (he : Extern.find fn = some (Extern.MathFloor.toIntegral "math.archTrunc" .zero)) : PrimOk P ren g Bz.P.trunc := by
  refine prim_ext hf hname hb hn he fun args r hp vals w A hv => ?_
  unfold Bz.P.trunc at hp
  split at hp
  · rename_i b
    cases hb : isNaN b with
    | true => rw [hb] at hp; cases hp
    | false =>
      rw [hb, cond_false] at hp
      cases hp
      obtain ⟨v, rfl, hr⟩ := hv.one
      obtain ⟨b', rfl, hfe⟩ := hr.float_inv
      obtain rfl := feq_eq hfe hb
      refine ⟨.float .f64 (Bz.P.truncF b), ?_, .float (.inl rfl)⟩
      have hd : (FloatKind.f64.decode b).isNaN = false := hb
      show ((match FloatKind.f64.decode b with
        | .nan s t =>
          if FloatKind.f64.format.quiet t = t then pure (.float .f64 b) else do
          let kept ← choose (.extern "math.Floor,Ceil,Trunc,RoundToEven.signallingNaN kept" 2)
          pure (.float .f64 (if kept == 1 then b else FloatKind.f64.encode (.nan s (FloatKind.f64.format.quiet t))))
        | d => pure (.float .f64 (FloatKind.f64.encode (d.integral .zero))) : Sem Value)).run P w = _
      unfold Bz.P.truncF
      cases hq : FloatKind.f64.decode b with
      | nan s t => rw [hq] at hd; cases hd
      | _ => rfl
  · cases hp
end
end Bz
