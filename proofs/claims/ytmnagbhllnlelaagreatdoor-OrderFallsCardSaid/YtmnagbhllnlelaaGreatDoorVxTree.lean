/- VX, part 13: regions that draw their order. -/
import Derived.Test.YtmnagbhllnlelaaGreatDoorVxReg2
set_option linter.unusedSimpArgs false
set_option linter.unusedVariables false
namespace Go.Vx
open Go
variable {P : Program} {D0 : DBase} {ro : Option Nat} {m0 : Mem} {w0 : World} {N : Nat} {Q : Exit → Act → World → Prop} {ops : Array Oper} {X : List PanicEntry → Mem → Prop}

def slotsL (xs : List Opd) : List Nat := xs.flatMap Opd.slots
def slotsP (ps : List (Nat × Nat × Opd)) : List Nat := ps.flatMap fun p => p.2.2.slots
def slotsO (x : Option Opd) : List Nat := match x with | some x => x.slots | none => []
/-- The slots that an operation looks at. -/
def IOp.reads : IOp → List Nat
  | .mv x | .un _ x | .cv _ x | .cvN _ x | .len x | .fld _ _ _ x | .ext x _ | .fa x _ | .nc x | .ld x | .lds x _ | .vb x | .bx _ x | .clr _ _ x | .mi _ x | .pn x | .sla x _ => x.slots
  | .pick c a b => c.slots ++ a.slots ++ b.slots
  | .bin _ x y | .binN _ x y | .div _ x y | .shf _ x y | .eq _ _ x y | .eqA _ _ x y | .idx _ _ x y | .ia x y _ | .iap x y _ _ | .st x y _ | .mk _ _ _ x y | .ap _ _ _ _ x y | .cp _ x y | .sx x y => x.slots ++ y.slots
  | .mm _ xs | .call _ xs | .callG _ xs | .mp _ xs => slotsL xs
  | .mf _ ys xs => slotsL ys ++ slotsL xs
  | .callV f xs | .callVG f xs => f.slots ++ slotsL xs
  | .bd _ ps | .bs _ _ _ ps => slotsP ps
  | .fr k x _ | .vld k x | .vlds k x _ => [k, x]
  | .ir k x i _ => k :: x :: i.slots
  | .vst k x v _ => k :: x :: v.slots
  | .va _ | .al _ _ => []
  | .sl x lo hi _ => x.slots ++ slotsO lo ++ slotsO hi
def E.reads (x : E) : List Nat := match x.g with | some (s, _) => s :: x.o.reads | none => x.o.reads

theorem at_congr {e e' : Env} {x : Opd} (h : ∀ s ∈ x.slots, e s = e' s) : x.at e = x.at e' := by
  cases x with
  | t n => simp only [Opd.at]; rw [h n (by simp [Opd.slots])]
  | c v => rfl
theorem av_congr {e e' : Env} {x : Opd} (h : ∀ s ∈ x.slots, e s = e' s) : x.av e = x.av e' := by
  cases x with
  | t n => simp only [Opd.av]; rw [h n (by simp [Opd.slots])]
  | c v => rfl
theorem ats_congr {e e' : Env} : ∀ {xs : List Opd}, (∀ s ∈ slotsL xs, e s = e' s) → Opd.ats e xs = Opd.ats e' xs := by
  intro xs
  induction xs with
  | nil => intro _; rfl
  | cons x xs ih =>
    intro h
    simp only [slotsL, List.flatMap_cons, List.mem_append] at h
    simp only [Opd.ats, at_congr fun s hs => h s (.inl hs), ih fun s hs => h s (.inr hs)]
theorem parts_congr {e e' : Env} : ∀ {ps : List (Nat × Nat × Opd)}, (∀ s ∈ slotsP ps, e s = e' s) → partsL e ps = partsL e' ps := by
  intro ps
  induction ps with
  | nil => intro _; rfl
  | cons p ps ih =>
    intro h
    obtain ⟨i, n, x⟩ := p
    simp only [slotsP, List.flatMap_cons, List.mem_append] at h
    simp only [partsL, at_congr fun s hs => h s (.inl hs), ih fun s hs => h s (.inr hs)]
theorem slOpd_congr {e e' : Env} {d : Int} {x : Option Opd} (h : ∀ s ∈ slotsO x, e s = e' s) : slOpd e d x = slOpd e' d x := by
  cases x with
  | none => rfl
  | some x => simp only [slOpd, at_congr (x := x) h]
theorem vop_congr {x : IOp} {e e' : Env} {m : Mem} {F : AV → Mem → Prop} (h : ∀ s ∈ x.reads, e s = e' s) : vop P x e m F X = vop P x e' m F X := by
  cases x <;> simp only [IOp.reads, List.mem_append, List.mem_cons, List.not_mem_nil, or_false] at h
  case mv x => simp only [vop, at_congr h]
  case un o x => simp only [vop, at_congr h]
  case cv k x => simp only [vop, at_congr h]
  case cvN k x => simp only [vop, at_congr h]
  case len x => simp only [vop, at_congr h]
  case fld a b c x => simp only [vop, at_congr h]
  case ext x i => simp only [vop, at_congr h]
  case fa x o => simp only [vop, av_congr h]
  case nc x => simp only [vop, at_congr h]
  case ld x => simp only [vop, at_congr h]
  case lds x n => simp only [vop, at_congr h]
  case vb x => simp only [vop, at_congr h]
  case bx T x => simp only [vop, at_congr h]
  case clr a b x => simp only [vop, at_congr h]
  case mi T x => simp only [vop, at_congr h]
  case pn x => simp only [vop, at_congr h]
  case pick c a b => simp only [vop, at_congr (fun s hs => h s (.inl (.inl hs))), at_congr (fun s hs => h s (.inl (.inr hs))), at_congr (fun s hs => h s (.inr hs))]
  case bin o x y => simp only [vop, at_congr (fun s hs => h s (.inl hs)), at_congr (fun s hs => h s (.inr hs))]
  case binN o x y => simp only [vop, at_congr (fun s hs => h s (.inl hs)), at_congr (fun s hs => h s (.inr hs))]
  case div o x y => simp only [vop, at_congr (fun s hs => h s (.inl hs)), at_congr (fun s hs => h s (.inr hs))]
  case shf o x y => simp only [vop, at_congr (fun s hs => h s (.inl hs)), at_congr (fun s hs => h s (.inr hs))]
  case eq k n x y => simp only [vop, at_congr (fun s hs => h s (.inl hs)), at_congr (fun s hs => h s (.inr hs))]
  case eqA n j x y => simp only [vop, at_congr (fun s hs => h s (.inl hs)), at_congr (fun s hs => h s (.inr hs))]
  case sx x y => simp only [vop, at_congr (fun s hs => h s (.inl hs)), at_congr (fun s hs => h s (.inr hs))]
  case sla x n => simp only [vop, at_congr h]
  case idx a b x y => simp only [vop, at_congr (fun s hs => h s (.inl hs)), at_congr (fun s hs => h s (.inr hs))]
  case ia x y z => simp only [vop, at_congr (fun s hs => h s (.inl hs)), at_congr (fun s hs => h s (.inr hs))]
  case iap x y a b => simp only [vop, av_congr (fun s hs => h s (.inl hs)), at_congr (fun s hs => h s (.inr hs))]
  case st x y n => simp only [vop, at_congr (fun s hs => h s (.inl hs)), at_congr (fun s hs => h s (.inr hs))]
  case mk a b c x y => simp only [vop, at_congr (fun s hs => h s (.inl hs)), at_congr (fun s hs => h s (.inr hs))]
  case ap a b c d x y => simp only [vop, at_congr (fun s hs => h s (.inl hs)), at_congr (fun s hs => h s (.inr hs))]
  case cp a x y => simp only [vop, at_congr (fun s hs => h s (.inl hs)), at_congr (fun s hs => h s (.inr hs))]
  case mm a xs => simp only [vop, ats_congr h]
  case mp a xs => simp only [vop, ats_congr h]
  case call f xs => simp only [vop, ats_congr h]
  case callG f xs => simp only [vop, ats_congr h]
  case mf f ys xs => simp only [vop, ats_congr (fun s hs => h s (.inl hs)), ats_congr (fun s hs => h s (.inr hs))]
  case callV f xs => simp only [vop, at_congr (fun s hs => h s (.inl hs)), ats_congr (fun s hs => h s (.inr hs))]
  case callVG f xs => simp only [vop, at_congr (fun s hs => h s (.inl hs)), ats_congr (fun s hs => h s (.inr hs))]
  case bd z ps => simp only [vop, parts_congr h]
  case bs a b c ps => simp only [vop, parts_congr h]
  case fr k x o => simp only [vop, h k (.inl rfl), h x (.inr rfl)]
  case vld k x => simp only [vop, h k (.inl rfl), h x (.inr rfl)]
  case vlds k x n => simp only [vop, h k (.inl rfl), h x (.inr rfl)]
  case ir k x i n => simp only [vop, h k (.inl rfl), h x (.inr (.inl rfl)), at_congr (fun s hs => h s (.inr (.inr hs)))]
  case vst k x v n => simp only [vop, h k (.inl rfl), h x (.inr (.inl rfl)), at_congr (fun s hs => h s (.inr (.inr hs)))]
  case va z => simp only [vop]
  case al T z => simp only [vop]
  case sl x lo hi n => simp only [vop, at_congr (fun s hs => h s (.inl (.inl hs))), slOpd_congr (fun s hs => h s (.inl (.inr hs))), slOpd_congr (fun s hs => h s (.inr hs))]
end Go.Vx
