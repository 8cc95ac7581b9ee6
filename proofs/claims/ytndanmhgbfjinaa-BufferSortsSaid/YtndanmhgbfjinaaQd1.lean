/- Part 1 of the proof: definitions and lemmas that the last text builds on. -/
import Derived.ProofKit
import Derived.Control
import Derived.Calls
import Derived.Tactics
import Derived.IntWalk
import Derived.Orders
import Derived.KernelRfl
set_option linter.all false
set_option linter.unusedVariables false
set_option linter.unusedSimpArgs false
namespace Go.Sl
open Go
abbrev PH := Nat → Option (Bool × Obj)
abbrev Asn := PH → Prop
def Dj (h k : PH) : Prop := ∀ b x y, h b = some x → k b = some y → x = y ∧ x.1 = false
def un (h k : PH) : PH := fun b => match h b with | some x => some x | none => k b
def Le (h k : PH) : Prop := ∀ b x, h b = some x → k b = some x
def Sat (h : PH) (w : World) : Prop := ∀ b x, h b = some x → w.heap[b]? = some x.2
def emp : PH := fun _ => none
def one : Value → Bool
  | .agg _ | .tuple _ => false
  | _ => true
theorem Dj.symm {h k : PH} (d : Dj h k) : Dj k h := fun b x y hx hy => by
  obtain ⟨e, f⟩ := d b y x hy hx
  exact ⟨e.symm, e ▸ f⟩
theorem Le.refl (h : PH) : Le h h := fun _ _ e => e
theorem Le.trans {h k l : PH} (a : Le h k) (b : Le k l) : Le h l := fun c x e => b c x (a c x e)
theorem Dj.mono {h h' k k' : PH} (d : Dj h' k') (a : Le h h') (b : Le k k') : Dj h k := fun c x y hx hy => d c x y (a c x hx) (b c y hy)
theorem Sat.mono {h k : PH} {w : World} (s : Sat k w) (a : Le h k) : Sat h w := fun b x e => s b x (a b x e)
theorem un_some_left {h k : PH} {b : Nat} {x : Bool × Obj} (e : h b = some x) : un h k b = some x := by simp [un, e]
theorem un_none_left {h k : PH} {b : Nat} (e : h b = none) : un h k b = k b := by simp [un, e]
theorem Le.left (h k : PH) : Le h (un h k) := fun b x e => by simp [un, e]
theorem Le.right {h k : PH} (d : Dj h k) : Le k (un h k) := fun b x e => by
  cases hh : h b with
  | none => simp [un, hh, e]
  | some y => simp only [un, hh]; rw [(d b y x hh e).1]
theorem un_cases {h k : PH} {b : Nat} {x : Bool × Obj} (e : un h k b = some x) : h b = some x ∨ k b = some x := by
  cases hh : h b with
  | none => exact .inr (by simpa [un, hh] using e)
  | some y => exact .inl (by simpa [un, hh] using e)
theorem Sat.un {h k : PH} {w : World} (a : Sat h w) (b : Sat k w) : Sat (un h k) w := fun c x e => (un_cases e).elim (a c x) (b c x)
theorem Dj.un_left {h k l : PH} (a : Dj h l) (b : Dj k l) : Dj (un h k) l := fun c x y hx hy => (un_cases hx).elim (fun e => a c x y e hy) (fun e => b c x y e hy)
theorem Dj.un_right {h k l : PH} (a : Dj l h) (b : Dj l k) : Dj l (un h k) := (Dj.un_left a.symm b.symm).symm
theorem Le.un {h k l : PH} (a : Le h l) (b : Le k l) : Le (un h k) l := fun c x e => (un_cases e).elim (a c x) (b c x)
theorem Dj.emp (h : PH) : Dj h emp := fun _ _ _ _ e => by simp [Sl.emp] at e
structure FR where
  ph : PH
  os : Os
  out : Array (Nat × ByteArray)
def DjF (h : PH) (F : FR) : Prop := Dj h F.ph
def SatF (F : FR) (w : World) : Prop := Sat F.ph w ∧ w.os = F.os ∧ w.output = F.out
def unF (k : PH) (F : FR) : FR := ⟨un k F.ph, F.os, F.out⟩
theorem SatF.un {k : PH} {F : FR} {w : World} (a : Sat k w) (b : SatF F w) : SatF (unF k F) w := ⟨Sat.un a b.1, b.2⟩
theorem DjF.mono {h h' : PH} {F : FR} (d : DjF h' F) (a : Le h h') : DjF h F := Dj.mono d a (Le.refl _)
theorem Sat.emp (w : World) : Sat emp w := fun _ _ e => by simp [Sl.emp] at e
theorem un_emp (h : PH) : un h emp = h := by funext b; simp only [Sl.un, Sl.emp]; cases h b <;> rfl
def Runs {α : Type} (P : Program) (s : Sem α) (K : α → Asn) : Asn := fun h =>
  ∀ hF w, DjF h hF → Sat h w → SatF hF w → ∃ v w' h', s.run P w = .ok v w' ∧ K v h' ∧ DjF h' hF ∧ Sat h' w' ∧ SatF hF w'
section
variable {P : Program} {α β : Type}
theorem Runs.pure {v : α} {K : α → Asn} {h : PH} (k : K v h) : Runs P (Pure.pure v : Sem α) K h :=
  fun _ w d s f => ⟨v, w, h, rfl, k, d, s, f⟩
theorem Runs.mono {s : Sem α} {K K' : α → Asn} {h : PH} (r : Runs P s K h) (k : ∀ v h', K v h' → K' v h') : Runs P s K' h :=
  fun hF w d a b => let ⟨v, w', h', e, q, d', a', b'⟩ := r hF w d a b; ⟨v, w', h', e, k v h' q, d', a', b'⟩
theorem Runs.bind {s : Sem α} {f : α → Sem β} {K : β → Asn} {h : PH} (r : Runs P s (fun v => Runs P (f v) K) h) : Runs P (s >>= f) K h := by
  intro hF w d a b
  obtain ⟨v, w1, h1, e1, q1, d1, a1, b1⟩ := r hF w d a b
  obtain ⟨u, w2, h2, e2, q2, d2, a2, b2⟩ := q1 hF w1 d1 a1 b1
  exact ⟨u, w2, h2, by rw [Sem.run_bind, e1]; exact e2, q2, d2, a2, b2⟩
theorem Runs.of_eq {s t : Sem α} {K : α → Asn} {h : PH} (e : ∀ w, Sat h w → s.run P w = t.run P w) (r : Runs P t K h) : Runs P s K h :=
  fun hF w d a b => by rw [e w a]; exact r hF w d a b
theorem Runs.val {s : Sem α} {K : α → Asn} {h : PH} (v : α) (e : ∀ w, Sat h w → s.run P w = .ok v w) (k : K v h) : Runs P s K h :=
  fun _ w d a b => ⟨v, w, h, e w a, k, d, a, b⟩
theorem Runs.frame {s : Sem α} {K K' : α → Asn} {h k : PH} (r : Runs P s K h) (d : Dj h k) (q : ∀ v h', K v h' → Dj h' k → K' v (un h' k)) : Runs P s K' (un h k) := by
  intro hF w dF a b
  have hk : DjF h (unF k hF) := Dj.un_right d (dF.mono (Le.left h k))
  obtain ⟨v, w', h', e, q', d', a', b'⟩ := r (unF k hF) w hk (a.mono (Le.left h k)) (SatF.un (a.mono (Le.right d)) b)
  have dk : Dj k hF.ph := dF.mono (Le.right d)
  have d1 : Dj h' k := Dj.mono d' (Le.refl _) (Le.left k hF.ph)
  exact ⟨v, w', un h' k, e, q v h' q' d1, (Dj.mono d' (Le.refl _) (Le.right dk)).un_left dk, a'.un (b'.1.mono (Le.left k hF.ph)), b'.1.mono (Le.right dk), b'.2⟩
theorem Runs.drop {s : Sem α} {K : α → Asn} {h h' : PH} (l : Le h' h) (r : Runs P s K h') : Runs P s K h := by
  intro hF w d a b
  obtain ⟨v, w', h2, e, q, d2, a2, b2⟩ := r hF w (d.mono l) (a.mono l) b
  exact ⟨v, w', h2, e, q, d2, a2, b2⟩
end
def put (h : PH) (b : Nat) (x : Bool × Obj) : PH := fun c => if c = b then some x else h c
theorem put_same (h : PH) (b : Nat) (x : Bool × Obj) : put h b x b = some x := by simp [put]
theorem put_ne (h : PH) {b c : Nat} (x : Bool × Obj) (e : c ≠ b) : put h b x c = h c := by simp [put, e]
theorem Dj.put_new {h k : PH} {b : Nat} {x : Bool × Obj} (d : Dj h k) (n : k b = none) : Dj (put h b x) k := by
  intro c y z hy hz
  by_cases e : c = b
  · subst e; rw [n] at hz; cases hz
  · rw [put_ne h x e] at hy; exact d c y z hy hz
theorem Sat.fresh {h : PH} {w : World} (s : Sat h w) {b : Nat} (e : w.heap.size ≤ b) : h b = none := by
  cases hh : h b with
  | none => rfl
  | some x => have := s b x hh; rw [Array.getElem?_eq_none e] at this; cases this
theorem Sat.push {h : PH} {w : World} (s : Sat h w) (o : Obj) : Sat h { w with heap := w.heap.push o } := by
  intro b x e
  have hb := s b x e
  show (w.heap.push o)[b]? = _
  rw [Array.getElem?_push]
  have : b < w.heap.size := by
    rcases Nat.lt_or_ge b w.heap.size with g | g
    · exact g
    · rw [Array.getElem?_eq_none g] at hb; cases hb
  rw [if_neg (by omega)]; exact hb
theorem Sat.put_push {h : PH} {w : World} (s : Sat h w) (o : Obj) (t : Bool) : Sat (put h w.heap.size (t, o)) { w with heap := w.heap.push o } := by
  intro b x e
  by_cases hb : b = w.heap.size
  · subst hb; rw [put_same] at e; cases e; show (w.heap.push o)[w.heap.size]? = _; simp
  · rw [put_ne h _ hb] at e; exact s.push o b x e
section
variable {P : Program}
theorem Runs.new {o : Obj} {K : Nat → Asn} {h : PH} (k : ∀ b, h b = none → K b (put h b (true, o))) : Runs P (newObj o) K h := by
  intro hF w d a b
  have n1 := a.fresh (Nat.le_refl w.heap.size)
  have n2 := b.1.fresh (Nat.le_refl w.heap.size)
  exact ⟨w.heap.size, { w with heap := w.heap.push o }, put h w.heap.size (true, o), rfl, k _ n1, Dj.put_new d n2, a.put_push o true, ⟨b.1.push o, b.2⟩⟩
theorem Runs.program {K : Program → Asn} {h : PH} (k : K P h) : Runs P Go.program K h :=
  fun _ w d a b => ⟨P, w, h, rfl, k, d, a, b⟩
theorem Runs.choose {q : Question} {K : Nat → Asn} {h : PH} (k0 : q.forced = true → K 0 h) (k : q.forced = false → ∀ n, K (q.cut n) h) : Runs P (Go.choose q) K h := by
  intro hF w d a b
  cases hq : q.forced with
  | true => exact ⟨0, w, h, by simp [Go.choose, Sem.run, hq], k0 hq, d, a, b⟩
  | false => exact ⟨q.cut (w.tape w.drawn q), { w with drawn := w.drawn + 1 }, h, by simp [Go.choose, Sem.run, hq], k hq _, d, a, b⟩
theorem Runs.mark {m : Mark} {K : Unit → Asn} {h : PH} (k : K () h) : Runs P (Go.mark m) K h :=
  fun _ w d a b => ⟨(), w, h, rfl, k, d, a, b⟩
theorem Runs.shape {r : Nat} {t : Bool} {c : Array Value} {e : TypeId} {fz : Nat × Nat} {K : Option (TypeId × Nat) → Asn} {h : PH} (hb : h r = some (t, .cells c e fz))
    (k : K (some (e, c.size)) h) : Runs P (Go.shape r) K h := by
  intro hF w d a b
  exact ⟨_, w, h, rfl, by simpa [World.shape?, a r _ hb] using k, d, a, b⟩
theorem Runs.load {a : Addr} {t : Bool} {c : Array Value} {e : TypeId} {fz : Nat × Nat} {v : Value} {K : Value → Asn} {h : PH} (hb : h a.block = some (t, .cells c e fz))
    (hs : a.spot = none) (hv : c[a.off]? = some v) (k : K v h) (m : Go.Mode := .plain) : Runs P (Go.load a m) K h := by
  intro hF w d s f
  have hc : w.cell? a = some v := by simp [World.cell?, s a.block _ hb, hs, hv]
  exact ⟨v, w, h, by simp [Go.load, Sem.run, hc], k, d, s, f⟩
theorem Sat.setBlock {h : PH} {w : World} {b : Nat} {x y : Bool × Obj} (s : Sat h w) (hb : h b = some x) : Sat (put h b y) { w with heap := w.heap.setIfInBounds b y.2 } := by
  intro c z e
  have hlt : b < w.heap.size := by
    rcases Nat.lt_or_ge b w.heap.size with g | g
    · exact g
    · have := s b x hb; rw [Array.getElem?_eq_none g] at this; cases this
  show (w.heap.setIfInBounds b y.2)[c]? = _
  by_cases hc : c = b
  · subst hc; rw [put_same] at e; cases e; simp [hlt]
  · rw [put_ne h _ hc] at e; rw [Array.getElem?_setIfInBounds_ne (fun q => hc q.symm)]; exact s c z e
theorem Sat.setOther {h k : PH} {w : World} {b : Nat} {x : Bool × Obj} {o : Obj} (d : Dj h k) (s : Sat k w) (hb : h b = some x) (ht : x.1 = true) : Sat k { w with heap := w.heap.setIfInBounds b o } := by
  intro c z e
  have hc : b ≠ c := by
    intro q; subst q
    have := (d b x z hb e).2
    rw [ht] at this; cases this
  show (w.heap.setIfInBounds b o)[c]? = _
  rw [Array.getElem?_setIfInBounds_ne hc]; exact s c z e
theorem Dj.put_old {h k : PH} {b : Nat} {x y : Bool × Obj} (d : Dj h k) (hb : h b = some x) (ht : x.1 = true) : Dj (put h b y) k := by
  refine d.put_new ?_
  cases hk : k b with
  | none => rfl
  | some z => have := (d b x z hb hk).2; rw [ht] at this; cases this
theorem modify_eq_set (heap : Array Obj) (b : Nat) (f : Obj → Obj) (o : Obj) (h : heap[b]? = some o) : heap.modify b f = heap.setIfInBounds b (f o) := by
  apply Array.ext_getElem?
  intro i
  rw [Array.getElem?_modify]
  by_cases e : b = i
  · subst e
    have hlt : b < heap.size := by
      rcases Nat.lt_or_ge b heap.size with g | g
      · exact g
      · rw [Array.getElem?_eq_none g] at h; cases h
    have h' : heap[b] = o := by rw [Array.getElem?_eq_getElem hlt] at h; exact Option.some.inj h
    simp [hlt, h']
  · rw [if_neg e, Array.getElem?_setIfInBounds_ne e]
theorem Runs.store {a : Addr} {c : Array Value} {e : TypeId} {u v : Value} {K : Unit → Asn} {h : PH} (hb : h a.block = some (true, .cells c e (0, 0)))
    (hs : a.spot = none) (hu : c[a.off]? = some u) (hv : one v = true)
    (k : K () (put h a.block (true, .cells (c.setIfInBounds a.off v) e (0, 0)))) (m : Go.Mode := .plain) : Runs P (Go.store a v m) K h := by
  intro hF w d s f
  have hblk := s a.block _ hb
  have hc : w.cell? a = some u := by simp [World.cell?, hblk, hs, hu]
  have hfz : w.frozen? a = false := by simp [World.frozen?, hblk]
  have hset : w.setCell a v = { w with heap := w.heap.setIfInBounds a.block (.cells (c.setIfInBounds a.off v) e (0, 0)) } := by
    simp only [World.setCell]
    rw [modify_eq_set w.heap a.block _ _ hblk]
    simp [hs]
  refine ⟨(), w.setCell a v, _, ?_, k, Dj.put_old d hb rfl, ?_, ?_⟩
  · cases v <;> first | (simp [one] at hv; done) | simp [Go.store, Sem.run, hc, hfz]
  · rw [hset]; exact s.setBlock hb
  · rw [hset]; exact ⟨f.1.setOther d hb rfl, f.2⟩
theorem Runs.getObj {r : Nat} {t : Bool} {o : Obj} {K : Obj → Asn} {h : PH} (hb : h r = some (t, o)) (ho : match o with | .cells .. => False | _ => True) (k : K o h) :
    Runs P (Go.getObj r) K h := by
  intro hF w d s f
  have := s r _ hb
  refine ⟨o, w, h, ?_, k, d, s, f⟩
  cases o <;> first | exact ho.elim | simp [Go.getObj, Sem.run, this]
theorem Runs.setObj {r : Nat} {o o' : Obj} {K : Unit → Asn} {h : PH} (hb : h r = some (true, o)) (ho : match o with | .cells .. => False | _ => True)
    (k : K () (put h r (true, o'))) : Runs P (Go.setObj r o') K h := by
  intro hF w d s f
  have := s r _ hb
  refine ⟨(), { w with heap := w.heap.setIfInBounds r o' }, _, ?_, k, Dj.put_old d hb rfl, s.setBlock (y := (true, o')) hb, ⟨f.1.setOther d hb rfl, f.2⟩⟩
  cases o <;> first | exact ho.elim | simp [Go.setObj, Sem.run, this]
theorem Runs.typeInfo {t : TypeId} {i : TypeInfo} {K : TypeInfo → Asn} {h : PH} (hi : P.info? t = some i) (k : K i h) : Runs P (Go.typeInfo t) K h :=
  Runs.val i (fun w _ => by simp [Go.typeInfo, Sem.run_bind, Go.program, Sem.run, hi]) k
theorem Runs.underlying {t : TypeId} {i : TypeDesc} {K : TypeDesc → Asn} {h : PH} (hi : P.underlying t = some i) (k : K i h) : Runs P (Go.underlying t) K h :=
  Runs.val i (fun w _ => by simp [Go.underlying, Sem.run_bind, Go.program, Sem.run, hi]) k
theorem Runs.sizeOf {t : TypeId} {i : TypeInfo} {K : Nat → Asn} {h : PH} (hi : P.info? t = some i) (k : K i.size h) : Runs P (Go.sizeOf t) K h :=
  Runs.bind (Runs.typeInfo hi (Runs.pure k))
theorem Runs.zeroValue {t : TypeId} {i : TypeInfo} {z : Value} {K : Value → Asn} {h : PH} (hi : P.info? t = some i) (hz : i.zero = some z) (k : K z h) : Runs P (Go.zeroValue t) K h :=
  Runs.bind (Runs.typeInfo hi (by rw [hz]; exact Runs.pure k))
end
def Star : List Asn → Asn
  | [], _ => True
  | A :: l, h => ∃ h1 h2, Dj h1 h2 ∧ Le (un h1 h2) h ∧ A h1 ∧ Star l h2
theorem Star.mono {l : List Asn} {h k : PH} (s : Star l h) (e : Le h k) : Star l k := by
  cases l with
  | nil => trivial
  | cons A l => obtain ⟨h1, h2, d, le, a, r⟩ := s; exact ⟨h1, h2, d, le.trans e, a, r⟩
theorem Star.cons {A : Asn} {l : List Asn} {h k : PH} (d : Dj h k) (a : A h) (s : Star l k) : Star (A :: l) (un h k) := ⟨h, k, d, Le.refl _, a, s⟩
theorem Star.append {l m : List Asn} : ∀ {h k : PH}, Dj h k → Star l h → Star m k → Star (l ++ m) (un h k) := by
  induction l with
  | nil => intro h k d _ s; exact s.mono (Le.right d)
  | cons A l ih =>
    intro h k d s t
    obtain ⟨h1, h2, d12, le, a, r⟩ := s
    have e1 : Le h1 h := (Le.left h1 h2).trans le
    have e2 : Le h2 h := (Le.right d12).trans le
    have dk : Dj h2 k := d.mono e2 (Le.refl _)
    have d1k : Dj h1 k := d.mono e1 (Le.refl _)
    refine ⟨h1, un h2 k, d12.un_right d1k, ?_, a, ih dk r t⟩
    refine Le.un (e1.trans (Le.left h k)) (Le.un (e2.trans (Le.left h k)) (Le.right d))
theorem Star.split {l m : List Asn} : ∀ {h : PH}, Star (l ++ m) h → ∃ h1 h2, Dj h1 h2 ∧ Le (un h1 h2) h ∧ Star l h1 ∧ Star m h2 := by
  induction l with
  | nil => intro h s; exact ⟨emp, h, (Dj.emp h).symm, Le.un (fun _ _ e => by simp [emp] at e) (Le.refl _), trivial, s⟩
  | cons A l ih =>
    intro h s
    obtain ⟨h1, h2, d, le, a, r⟩ := s
    obtain ⟨k1, k2, dk, lek, s1, s2⟩ := ih r
    have e1 : Le k1 h2 := (Le.left _ _).trans lek
    have e2 : Le k2 h2 := (Le.right dk).trans lek
    have d1 : Dj h1 k1 := d.mono (Le.refl _) e1
    refine ⟨un h1 k1, k2, (d.mono (Le.refl _) e2).un_left dk, ?_, Star.cons d1 a s1, s2⟩
    have l2 : Le h2 h := (Le.right d).trans le
    exact Le.un (Le.un ((Le.left _ _).trans le) (e1.trans l2)) (e2.trans l2)
def Pick (l : List Asn) (A : Asn) (R : List Asn) : Prop := ∀ h, Star l h → Star (A :: R) h
theorem Pick.here {A : Asn} {R : List Asn} : Pick (A :: R) A R := fun _ s => s
theorem Pick.there {A B : Asn} {l R : List Asn} (p : Pick l A R) : Pick (B :: l) A (B :: R) := by
  intro h s
  obtain ⟨h1, h2, d, le, b, r⟩ := s
  obtain ⟨k1, k2, dk, lek, a, r'⟩ := p h2 r
  have e1 : Le k1 h2 := (Le.left _ _).trans lek
  have e2 : Le k2 h2 := (Le.right dk).trans lek
  have l2 : Le h2 h := (Le.right d).trans le
  refine ⟨k1, un h1 k2, (Dj.un_right (d.mono (Le.refl _) e1).symm dk), ?_, a, Star.cons (d.mono (Le.refl _) e2) b r'⟩
  exact Le.un (e1.trans l2) (Le.un ((Le.left _ _).trans le) (e2.trans l2))
inductive Picks : List Asn → List Asn → List Asn → Prop
  | nil {l : List Asn} : Picks l [] l
  | cons {l R S : List Asn} {A : Asn} {L : List Asn} (p : Pick l A R) (q : Picks R L S) : Picks l (A :: L) S
theorem Picks.star {l L R : List Asn} (p : Picks l L R) : ∀ {h : PH}, Star l h → Star (L ++ R) h := by
  induction p with
  | nil => intro h s; exact s
  | cons p _ ih =>
    intro h s
    obtain ⟨h1, h2, d, le, a, r⟩ := p h s
    exact ⟨h1, h2, d, le, a, ih r⟩
theorem Picks.split {l L R : List Asn} (p : Picks l L R) {h : PH} (s : Star l h) : ∃ h1 h2, Dj h1 h2 ∧ Le (un h1 h2) h ∧ Star L h1 ∧ Star R h2 := Star.split (p.star s)
def Ent (l : List Asn) (φ : Asn) : Prop := ∀ h, Star l h → φ h
end Go.Sl
namespace Go.Sl
open Go
inductive Slot where
  | val (v : Value)
  | skip
def Slot.get : Slot → Value | .val v => v | .skip => undef
structure Env where
  l : List (Nat × Slot)
  j : Nat → Value
def look (t : Nat) (x : Slot) : List (Nat × Slot) → Slot
  | [] => x
  | (d, v) :: r => match Nat.beq d t with | true => v | false => look t x r
def Env.slot (ρ : Env) (t : Nat) : Slot := look t (.val (ρ.j t)) ρ.l
def Env.get (ρ : Env) (t : Nat) : Value := (ρ.slot t).get
def Env.eval (ρ : Env) : Operand → Value
  | .tmp t => ρ.get t
  | .const v => v
  | .global g => .pointer (some ⟨g, 0, none⟩)
  | .func f => .func (.func f) #[] #[]
def Env.put (ρ : Env) : Option Tmp → Slot → Env
  | some d, v => ⟨(d, v) :: ρ.l, ρ.j⟩
  | none, _ => ρ
def Rel (n : Nat) (ρ : Env) (a : Act) : Prop := a.tmps.size = n ∧ ∀ t, a.tmps.getD t undef = ρ.get t
theorem Env.get_put (ρ : Env) (d : Tmp) (s : Slot) (t : Nat) : (ρ.put (some d) s).get t = if d = t then s.get else ρ.get t := by
  simp only [Env.get, Env.slot, Env.put, look]
  by_cases e : d = t
  · subst e; simp
  · have : Nat.beq d t = false := by
      cases hb : Nat.beq d t with
      | false => rfl
      | true => exact (e (Nat.eq_of_beq_eq_true hb)).elim
    rw [this]; simp [e]
theorem Rel.eval {n : Nat} {ρ : Env} {a : Act} (r : Rel n ρ a) : a.eval = ρ.eval := by
  funext x
  cases x with
  | tmp t => exact r.2 t
  | _ => rfl
theorem Rel.put {n : Nat} {ρ : Env} {a : Act} (r : Rel n ρ a) (d : Option Tmp) (hd : ∀ x, d = some x → x < n) (s : Slot) (v : Value) (hv : s.get = v) : Rel n (ρ.put d s) (a.put d v) := by
  cases d with
  | none => exact r
  | some d =>
    have hd := hd d rfl
    refine ⟨by simp [Act.put, r.1], fun t => ?_⟩
    rw [Env.get_put, hv]
    simp only [Act.put, Array.getD_eq_getD_getElem?]
    by_cases e : d = t
    · subst e; rw [if_pos rfl]; simp [r.1, hd]
    · rw [if_neg e, Array.getElem?_setIfInBounds_ne e, ← Array.getD_eq_getD_getElem?]; exact r.2 t
def UponR (P : Program) (R : Value → World → Prop) : Result Next → Prop
  | .ok (.value v) w => R v w
  | .ok .skip w => R undef w
  | .ok (.enter f args) w => Calls P f args w fun e w' => ∃ v, e = .returned v ∧ R v w'
  | _ => False
def OpR (P : Program) (s : Sem Next) (K : Value → Asn) : Asn := fun h =>
  ∀ hF w, DjF h hF → Sat h w → SatF hF w → UponR P (fun v w' => ∃ h', K v h' ∧ DjF h' hF ∧ Sat h' w' ∧ SatF hF w') (s.run P w)
section
variable {P : Program}
theorem UponR.mono {R R' : Value → World → Prop} (k : ∀ v w, R v w → R' v w) : ∀ {r : Result Next}, UponR P R r → UponR P R' r
  | .ok (.value v) w, h => k v w h
  | .ok .skip w, h => k undef w h
  | .ok (.enter _ _) _, h => Calls.mono h fun _ _ ⟨v, e, q⟩ => ⟨v, e, k v _ q⟩
theorem OpR.mono {s : Sem Next} {K K' : Value → Asn} {h : PH} (r : OpR P s K h) (k : ∀ v h', K v h' → K' v h') : OpR P s K' h :=
  fun hF w d a b => (r hF w d a b).mono fun _ _ ⟨h', q, x⟩ => ⟨h', k _ _ q, x⟩
theorem OpR.of_eq {s t : Sem Next} {K : Value → Asn} {h : PH} (e : ∀ w, Sat h w → s.run P w = t.run P w) (r : OpR P t K h) : OpR P s K h :=
  fun hF w d a b => by rw [e w a]; exact r hF w d a b
theorem OpR.value {s : Sem Value} {K : Value → Asn} {h : PH} (r : Runs P s K h) : OpR P (do pure (.value (← s))) K h := by
  intro hF w d a b
  obtain ⟨v, w', h', e, q⟩ := r hF w d a b
  rw [Sem.run_bind, e]; exact ⟨h', q⟩
theorem OpR.unit {s : Sem Unit} {K : Value → Asn} {h : PH} (r : Runs P s (fun _ => K undef) h) : OpR P (do s; pure .skip) K h := by
  intro hF w d a b
  obtain ⟨v, w', h', e, q⟩ := r hF w d a b
  rw [Sem.run_bind, e]; exact ⟨h', q⟩
theorem OpR.bind {α : Type} {s : Sem α} {f : α → Sem Next} {K : Value → Asn} {h : PH} (r : Runs P s (fun v => OpR P (f v) K) h) : OpR P (s >>= f) K h := by
  intro hF w d a b
  obtain ⟨v, w1, h1, e1, q1, d1, a1, b1⟩ := r hF w d a b
  rw [Sem.run_bind, e1]; exact q1 hF w1 d1 a1 b1
theorem OpR.frame {s : Sem Next} {K K' : Value → Asn} {h k : PH} (r : OpR P s K h) (d : Dj h k) (q : ∀ v h', K v h' → Dj h' k → K' v (un h' k)) : OpR P s K' (un h k) := by
  intro hF w dF a b
  have hk : DjF h (unF k hF) := Dj.un_right d (dF.mono (Le.left h k))
  have dk : Dj k hF.ph := dF.mono (Le.right d)
  refine (r (unF k hF) w hk (a.mono (Le.left h k)) (SatF.un (a.mono (Le.right d)) b)).mono ?_
  rintro v w' ⟨h', q', d', a', b'⟩
  have d1 : Dj h' k := Dj.mono d' (Le.refl _) (Le.left k hF.ph)
  exact ⟨un h' k, q v h' q' d1, (Dj.mono d' (Le.refl _) (Le.right dk)).un_left dk, a'.un (b'.1.mono (Le.left k hF.ph)), b'.1.mono (Le.right dk), b'.2⟩
theorem OpR.drop {s : Sem Next} {K : Value → Asn} {h h' : PH} (l : Le h' h) (r : OpR P s K h') : OpR P s K h :=
  fun hF w d a b => r hF w (d.mono l) (a.mono l) b
end
def O (o : Option Value) (K : Value → Asn) : Asn := fun h => ∃ v, o = some v ∧ K v h
def VB (v : Value) (x y : Asn) : Asn := match v with | .bool b => (match b with | true => x | false => y) | _ => fun _ => False
def rdCells (c : List Value) (off n : Nat) : Option (List Value) := if off + n ≤ c.length then some ((c.drop off).take n) else none
def rdV (c : List Value) (off : Nat) : Option Nat → Option Value
  | none => c[off]?
  | some n => (rdCells c off n).map fun l => .agg l.toArray
def wrCells (c : List Value) (off : Nat) : List Value → List Value
  | [] => c
  | v :: l => wrCells (c.set off v) (off + 1) l
def Ld (k : Option Nat) (x : Value) (K : Value → Asn) : Asn := fun h =>
  ∃ b off t c e fz v, x = .pointer (some ⟨b, off, none⟩) ∧ h b = some (t, .cells c e fz) ∧ rdV c.toList off k = some v ∧ K v h
def St (n : Nat) (x v : Value) (K : Value → Asn) : Asn := fun h =>
  ∃ b off c e, x = .pointer (some ⟨b, off, none⟩) ∧ h b = some (true, .cells c e (0, 0)) ∧ v.cells.size = n ∧ off + n ≤ c.size ∧ v.cells.toList.all one = true ∧
    K undef (put h b (true, .cells (wrCells c.toList off v.cells.toList).toArray e (0, 0)))
def Nw (e : TypeId) (c : List Value) (f : Nat → Value) (K : Value → Asn) : Asn := fun h => ∀ b, h b = none → K (f b) (put h b (true, .cells c.toArray e (0, 0)))
def ptr (b : Nat) : Value := .pointer (some ⟨b, 0, none⟩)
def nilV : Value → Option Value
  | .pointer (some a) => some (.pointer (some a))
  | .func (.func f) x y => some (.func (.func f) x y)
  | _ => none
def addV (n : Nat) : Value → Option Value
  | .pointer (some ⟨b, off, none⟩) => some (.pointer (some ⟨b, off + n, none⟩))
  | _ => none
def extV (i : Nat) : Value → Option Value
  | .tuple vs => vs[i]?
  | _ => none
def fldV (off : Nat) (k : Option Nat) : Value → Option Value
  | .agg cs => rdV cs.toList off k
  | _ => none
def idxV (size : Nat) (x i : Value) : Option Value :=
  match x, i with
  | .slice (some ⟨b, off, none⟩) len _, .int _ n => if 0 ≤ n ∧ n < len then some (.pointer (some ⟨b, off + n.toNat * size, none⟩)) else none
  | _, _ => none
def cvV (k : IntKind) : Value → Option Value
  | .int _ n => some (.int k (k.wrap n))
  | _ => none
def notV : Value → Option Value
  | .bool b => some (.bool !b)
  | _ => none
def negV : Value → Option Value
  | .int k n => some (.int k (k.wrap (0 - n)))
  | _ => none
def cmpI (op : BinOp) (x y : Int) : Option Value :=
  match op with
  | .eql => some (.bool (x == y))
  | .neq => some (.bool (x != y))
  | .lss => some (.bool (decide (x < y)))
  | .leq => some (.bool (decide (x ≤ y)))
  | .gtr => some (.bool (decide (x > y)))
  | .geq => some (.bool (decide (x ≥ y)))
  | _ => none
def arI (op : BinOp) (k : IntKind) (x y : Int) : Option Value :=
  match op with
  | .add => some (.int k (k.wrap (x + y)))
  | .sub => some (.int k (k.wrap (x - y)))
  | .mul => some (.int k (k.wrap (x * y)))
  | .quo => if y = 0 then none else some (.int k (k.wrap (x.tdiv y)))
  | .rem => if y = 0 then none else some (.int k (x.tmod y))
  | .and => some (.int k (k.wrap (BitVec.ofInt k.bits x &&& BitVec.ofInt k.bits y).toNat))
  | .or => some (.int k (k.wrap (BitVec.ofInt k.bits x ||| BitVec.ofInt k.bits y).toNat))
  | .xor => some (.int k (k.wrap (BitVec.ofInt k.bits x ^^^ BitVec.ofInt k.bits y).toNat))
  | .andNot => some (.int k (k.wrap (BitVec.ofInt k.bits x &&& ~~~BitVec.ofInt k.bits y).toNat))
  | _ => cmpI op x y
def strV (op : BinOp) (x y : ByteArray) : Option Value :=
  match op with
  | .add => if ((x.size + y.size : Nat) : Int) > IntKind.i64.max then none else some (.string (x ++ y))
  | .eql => some (.bool (x.toList == y.toList))
  | .neq => some (.bool !(x.toList == y.toList))
  | _ => none
def binV (op : BinOp) (x y : Value) : Option Value :=
  match x, y with
  | .int k a, .int k' b =>
    match op with
    | .shl => if b < 0 then none else some (.int k (k.wrap (a * 2 ^ min b.toNat k.bits)))
    | .shr => if b < 0 then none else some (.int k (a.fdiv (2 ^ min b.toNat k.bits)))
    | _ => if k = k' then arI op k a b else none
  | .string a, .string b => strV op a b
  | _, _ => none
inductive NK where | b | p | s | m | f
def nilEq (k : NK) (x y : Value) : Option Bool :=
  match k, x, y with
  | .p, .pointer none, .pointer b => some b.isNone
  | .p, .pointer (some _), .pointer none => some false
  | .p, .pointer (some a), .pointer (some b) => if a = b then some true else none
  | .s, .slice none _ _, .slice b _ _ => some b.isNone
  | .s, .slice (some _) _ _, .slice none _ _ => some false
  | .m, .map none, .map b => some b.isNone
  | .m, .map (some _), .map none => some false
  | .f, .nilFunc, .nilFunc => some true
  | .f, .nilFunc, .func _ _ _ => some false
  | .f, .func _ _ _, .nilFunc => some false
  | .b, .bool a, .bool b => some (a == b)
  | _, _, _ => none
def lenL : Value → Option Value
  | .slice _ n _ => some (.int .i64 n)
  | _ => none
def lenS : Value → Option Value
  | .string s => some (.int .i64 s.size)
  | _ => none
def capV : Value → Option Value
  | .slice _ _ n => some (.int .i64 n)
  | _ => none
def maxV (x y : Value) : Option Value :=
  match x, y with
  | .int k a, .int _ b => some (.int k (if b > a then b else a))
  | _, _ => none
def minV (x y : Value) : Option Value :=
  match x, y with
  | .int k a, .int _ b => some (.int k (if b < a then b else a))
  | _, _ => none
def bndV (x : Value) (y : Nat) : Option Nat :=
  match x with
  | .int _ i => if 0 ≤ i ∧ i ≤ y then some i.toNat else none
  | _ => none
def addA : Addr → Nat → Addr
  | ⟨b, off, none⟩, n => ⟨b, off + n, none⟩
  | a, n => a.add n
theorem addA_eq (a : Addr) (n : Nat) : addA a n = a.add n := by
  obtain ⟨b, off, sp⟩ := a
  cases sp with
  | none => by_cases h : n = 0 <;> simp [addA, Addr.add, h]
  | some s => rfl
def slcV (size : Nat) (x : Value) (lo hi mx : Option Value) : Option Value :=
  match x with
  | .slice a len cap =>
    (match mx with | some v => bndV v cap | none => some cap).bind fun m =>
    (match hi with | some v => bndV v m | none => (match mx with | none => some len | some _ => none)).bind fun h =>
    (match lo with | some v => bndV v h | none => some 0).bind fun l =>
      some (.slice (if m = l then a else a.map (addA · (l * size))) (h - l) (m - l))
  | _ => none
def slcS (x : Value) (lo hi : Option Value) : Option Value :=
  match x with
  | .string s =>
    (match hi with | some v => bndV v s.size | none => some s.size).bind fun h =>
    (match lo with | some v => bndV v h | none => some 0).bind fun l => some (.string (s.extract l h))
  | _ => none
def sidxV (x i : Value) : Option Value :=
  match x, i with
  | .string s, .int _ n => if 0 ≤ n then (s[n.toNat]?).map fun b => .int .u8 b.toNat else none
  | _, _ => none
def placeIn (c : List Value) (off n : Nat) (v : Value) : Option (List Value) :=
  if v.cells.size = n ∧ off + n ≤ c.length then some (wrCells c off v.cells.toList) else none
def bldV (z : List Value) : List (Nat × Nat × Value) → Option (List Value)
  | [] => some z
  | (off, n, v) :: r => (placeIn z off n v).bind fun c => bldV c r
end Go.Sl
namespace Go.Sl
open Go
def isAggD : TypeDesc → Bool
  | .struct _ | .array _ _ => true
  | _ => false
def szk (P : Program) (t : TypeId) : Option Nat := (P.info? t).map (·.size)
def ldk (P : Program) (t : TypeId) : Option (Option Nat) :=
  (P.underlying t).bind fun d => match isAggD d with | true => (szk P t).map some | false => some none
def zck (P : Program) (t : TypeId) : Option (List Value) := (P.info? t).bind fun i => i.zero.map fun z => z.cells.toList
def fok (P : Program) (s : TypeId) (f : Nat) : Option (Nat × TypeId) :=
  match P.underlying s with
  | some (.struct fs) => (fs[f]?).map fun f => (f.offset, f.type)
  | _ => none
def elk (P : Program) (t : TypeId) : Option Nat :=
  match P.underlying t with
  | some (.slice e) => szk P e
  | _ => none
def isStr (P : Program) (t : TypeId) : Bool := match P.underlying t with | some .string => true | _ => false
inductive EqK where | num | nil (k : NK) | other
def eqk (P : Program) (t : TypeId) : EqK :=
  match P.underlying t with
  | some (.int _) | some .string => .num
  | some .bool => .nil .b
  | some (.pointer e) => (match szk P e with | some _ => .nil .p | none => .other)
  | some (.slice _) => .nil .s
  | some (.map _ _) => .nil .m
  | some (.func _ _ _) => .nil .f
  | _ => .other
def intk (P : Program) (t : TypeId) : Option IntKind := match P.underlying t with | some (.int k) => some k | _ => none
def no : Asn := fun _ => False
def placesS (P : Program) (fs : Array Field) (ρ : Operand → Value) : List (Nat × Operand) → Option (List (Nat × Nat × Value))
  | [] => some []
  | (i, x) :: r => (fs[i]?).bind fun f => (szk P f.type).bind fun n => (placesS P fs ρ r).map fun l => (f.offset, n, ρ x) :: l
def placesE (size : Nat) (ρ : Operand → Value) : List (Nat × Operand) → List (Nat × Nat × Value)
  | [] => []
  | (i, x) :: r => (i * size, size, ρ x) :: placesE size ρ r
def aggO (o : Option (List Value)) : Option Value := o.map fun c => .agg c.toArray
def BS (e : TypeId) (o : Option (List Value)) (n : Nat) (K : Value → Asn) : Asn := fun h => ∃ c, o = some c ∧ Nw e c (fun b => .slice (some ⟨b, 0, none⟩) n n) K h
def rep (z : List Value) : Nat → List Value
  | 0 => []
  | n + 1 => z ++ rep z n
def Cl (P : Program) (f : FuncId) (args : List Value) (K : Value → Asn) : Asn := OpR P (callFunc f args.toArray) K
def Cv (P : Program) (x : Value) (args : List Value) (K : Value → Asn) : Asn :=
  match x with
  | .func (.func f) first cap => OpR P (callFunc f (first ++ args.toArray ++ cap)) K
  | _ => no
def Rd (P : Program) (s : Sem Value) (K : Value → Asn) : Asn := fun h => ∃ v, (∀ w, Sat h w → s.run P w = .ok v w) ∧ K v h
def vBin (P : Program) (op : BinOp) (t : TypeId) (x y : Operand) (ρ : Operand → Value) (K : Value → Asn) : Asn :=
  match op with
  | .eql => match eqk P t with
    | .num => O (binV .eql (ρ x) (ρ y)) K
    | .nil k => O ((nilEq k (ρ x) (ρ y)).map .bool) K
    | .other => Rd P (do eqGuard .eql t x y (ρ x) (ρ y); binOp .eql t (ρ x) (ρ y)) K
  | .neq => match eqk P t with
    | .num => O (binV .neq (ρ x) (ρ y)) K
    | .nil k => O ((nilEq k (ρ x) (ρ y)).map fun b => .bool !b) K
    | .other => Rd P (do eqGuard .neq t x y (ρ x) (ρ y); binOp .neq t (ρ x) (ρ y)) K
  | op => O (binV op (ρ x) (ρ y)) K
def NwM (K : Value → Asn) : Asn := fun h => ∀ b, h b = none → K (.map (some b)) (put h b (true, .map #[] 0))
def lenOk (by' : Nat) (l c : Value) : Option (Nat × Nat) :=
  match l, c with
  | .int _ n, .int _ m => if 0 ≤ n ∧ n ≤ m ∧ by' * m ≤ 281474976710656 ∧ m < 9223372036854775808 then some (n.toNat, m.toNat) else none
  | _, _ => none
def MSl (e : TypeId) (z : List Value) (by' : Nat) (l c : Value) (K : Value → Asn) : Asn := fun h =>
  ∃ q, lenOk by' l c = some q ∧ Nw e (rep z q.2) (fun b => .slice (some ⟨b, 0, none⟩) q.1 q.2) K h
def vMakeSlice (P : Program) (t : TypeId) (l c : Value) (K : Value → Asn) : Asn :=
  match P.underlying t with
  | some (.slice e) => (match P.info? e with
    | some i => (match i.zero with
      | some z => (match Nat.beq z.cells.size i.size with
        | true => MSl e z.cells.toList i.bytes l c K
        | false => no)
      | none => no)
    | none => no)
  | _ => no
inductive LenK where | str | sl | other
def lenk (P : Program) (ts : Array TypeId) : LenK :=
  match ts[0]? with
  | some t => (match P.underlying t with
    | some .string => .str
    | some (.slice _) => .sl
    | _ => .other)
  | none => .other
def vBuiltin (P : Program) (b : Builtin) (ts : Array TypeId) (ty : TypeId) (cs : Array Bool) (args : List Value) (K : Value → Asn) : Asn :=
  match b with
  | .len => (match args with
    | [x] => (match lenk P ts with
      | .str => O (lenS x) K
      | .sl => O (lenL x) K
      | .other => Rd P (Builtin.len_ ts ty #[x]) K)
    | _ => no)
  | .cap => (match args with
    | [x] => (match lenk P ts with
      | .sl => O (capV x) K
      | _ => no)
    | _ => no)
  | .max => (match args with
    | [x, y] => O (maxV x y) K
    | _ => no)
  | .min => (match args with
    | [x, y] => O (minV x y) K
    | _ => no)
  | .append => Runs P (Builtin.append_ ts ty args.toArray) K
  | .copy => Runs P (Builtin.copy_ ts ty args.toArray) K
  | .delete => Runs P (Builtin.delete_ ts ty args.toArray) K
  | .clear => Runs P (Builtin.clear_ ts ty args.toArray) K
  | b => OpR P (builtin b ts ty cs args.toArray) K
def vBuild (P : Program) (t : TypeId) (parts : Array (Nat × Operand)) (ρ : Operand → Value) (K : Value → Asn) : Asn :=
  match P.underlying t with
  | some (.struct fs) => (match zck P t with
    | some z => (match fs.toList.all fun f => (szk P f.type).isSome with
      | true => (match placesS P fs ρ parts.toList with | some l => O (aggO (bldV z l)) K | none => no)
      | false => no)
    | none => no)
  | some (.array _ e) => (match zck P t with
    | some z => (match szk P e with | some n => O (aggO (bldV z (placesE n ρ parts.toList))) K | none => no)
    | none => no)
  | _ => no
def vBuildSlice (P : Program) (t : TypeId) (n : Nat) (parts : Array (Nat × Operand)) (ρ : Operand → Value) (K : Value → Asn) : Asn :=
  match P.underlying t with
  | some (.slice e) => (match szk P e with
    | some k => (match zck P e with
      | some z => (match Nat.beq z.length k && Nat.ble (n * k) 16777216 with | true => BS e (bldV (rep z n) (placesE k ρ parts.toList)) n K | false => no)
      | none => no)
    | none => no)
  | _ => no
def vConvert (P : Program) (a b : TypeId) (x : Value) (K : Value → Asn) : Asn :=
  match intk P a with
  | some _ => (match intk P b with
    | some k => O (cvV k x) K
    | none => Runs P (convert a b x) K)
  | none => (match elk P a with
    | some _ => Rd P (convert a b x) K
    | none => Runs P (convert a b x) K)
def vSlice (P : Program) (t : TypeId) (x : Value) (lo hi mx : Option Value) (K : Value → Asn) : Asn :=
  match elk P t with
  | some n => O (slcV n x lo hi mx) K
  | none => (match isStr P t with
    | true => (match mx with | none => O (slcS x lo hi) K | some _ => no)
    | false => Runs P (Instr.sliceAt t x lo hi mx) K)
def isConst : Operand → Bool
  | .const _ => true
  | _ => false
def vCall (P : Program) (c : Call) (ty : TypeId) (ρ : Operand → Value) (K : Value → Asn) : Asn :=
  match c.callee with
  | .value x => (match x with
    | .func f => Cl P f (c.args.toList.map ρ) K
    | x => Cv P (ρ x) (c.args.toList.map ρ) K)
  | .builtin b => vBuiltin P b c.argTypes ty (c.args.map isConst) (c.args.toList.map ρ) K
  | .invoke x name => OpR P (invoke (.fn (.method name) #[]) (#[ρ x] ++ c.args.map ρ)) K
def vUn (P : Program) (op : UnOp) (x : Value) (K : Value → Asn) : Asn :=
  match op with
  | .not => O (notV x) K
  | .neg => O (negV x) K
  | op => Runs P (Op.unary op x) K
def vFieldAddr (P : Program) (s : TypeId) (x : Value) (f : Nat) (K : Value → Asn) : Asn :=
  match fok P s f with
  | some q => (match szk P q.2 with
    | some n => (match n with | 0 => no | _ + 1 => O (addV q.1 x) K)
    | none => no)
  | none => no
def vField (P : Program) (s : TypeId) (x : Value) (f : Nat) (K : Value → Asn) : Asn :=
  match fok P s f with
  | some q => (match ldk P q.2 with | some k => O (fldV q.1 k x) K | none => no)
  | none => no
def vcOp (P : Program) (op : Op) (ty : TypeId) (ρ : Operand → Value) (K : Value → Asn) : Asn :=
  match op with
  | .move x => K (ρ x)
  | .assign x => K (ρ x)
  | .pick c a b => VB (ρ c) (K (ρ a)) (K (ρ b))
  | .alloc e => match zck P e with | some z => Nw e z ptr K | none => no
  | .box e x => Nw e (ρ x).cells.toList ptr K
  | .build t parts => vBuild P t parts ρ K
  | .buildSlice t n parts => vBuildSlice P t n parts ρ K
  | .load t x => match ldk P t with | some k => Ld k (ρ x) K | none => no
  | .store t x v => match szk P t with | some n => St n (ρ x) (ρ v) K | none => no
  | .nilCheck x => O (nilV (ρ x)) K
  | .binOp op t x y _ => vBin P op t x y ρ K
  | .unOp op _ x => vUn P op (ρ x) K
  | .convert a b x => vConvert P a b (ρ x) K
  | .slice t x lo hi mx => vSlice P t (ρ x) (lo.map ρ) (hi.map ρ) (mx.map ρ) K
  | .fieldAddr s x f => vFieldAddr P s (ρ x) f K
  | .field s x f => vField P s (ρ x) f K
  | .indexAddr t x i => match elk P t with
    | some n => O (idxV n (ρ x) (ρ i)) K
    | none => Runs P (Instr.indexAt t (ρ x) (ρ i)) K
  | .index t x i => match isStr P t with
    | true => O (sidxV (ρ x) (ρ i)) K
    | false => Runs P (Instr.index t (ρ x) (ρ i)) K
  | .extract t i => O (extV i (ρ t)) K
  | .makeFunc fn first cap => K (.func fn (first.map ρ) (cap.map ρ))
  | .makeMap t r => (match r with | none => NwM K | some x => Runs P (Instr.makeMap t (some (ρ x))) K)
  | .makeSlice t l c => vMakeSlice P t (ρ l) (ρ c) K
  | .lookup t m k ok => Rd P (Instr.lookup t (ρ m) (ρ k) ok) K
  | .mapUpdate t m k x => Runs P (Instr.mapUpdate t (ρ m) (ρ k) (ρ x)) fun _ => K undef
  | .insert t m k x => Runs P (Instr.mapUpdate t (ρ m) (ρ k) (ρ x)) fun _ => K undef
  | .range t x => Runs P (Instr.range t (ρ x)) K
  | .next it s => Runs P (Instr.next (ρ it) s ty) K
  | .entry it => Runs P (Instr.entry (ρ it)) K
  | .typeAssert x a b ok => Runs P (Instr.typeAssert (ρ x) a b ok) K
  | .makeInterface t x => Runs P (Instr.makeInterface t (ρ x)) K
  | .call c => vCall P c ty ρ K
  | op => OpR P (execOp ρ { dst := none, op, type := ty, pos := "", after := #[], guard := none }) K
end Go.Sl
namespace Go.Sl
open Go
section
variable {P : Program}
theorem VB_cases {v : Value} {x y : Asn} {h : PH} (r : VB v x y h) : ∃ b, v = .bool b ∧ (if b then x else y) h := by
  cases v <;> first | exact (r : False).elim | skip
  rename_i b
  cases b
  · exact ⟨false, rfl, r⟩
  · exact ⟨true, rfl, r⟩
theorem add_off (b off : Nat) (n : Nat) : (⟨b, off, none⟩ : Addr).add n = ⟨b, off + n, none⟩ := by
  by_cases h : n = 0 <;> simp [Addr.add, h]
theorem isAgg_runs {t : TypeId} {d : TypeDesc} {K : Bool → Asn} {h : PH} (hd : P.underlying t = some d) (k : K (isAggD d) h) : Runs P (isAgg t) K h := by
  refine Runs.bind (Runs.underlying hd ?_)
  cases d <;> exact Runs.pure k
theorem rdCells_some {c : List Value} {off n : Nat} {l : List Value} (h : rdCells c off n = some l) : off + n ≤ c.length ∧ l = (c.drop off).take n := by
  simp only [rdCells] at h
  split at h
  · cases h; exact ⟨by assumption, rfl⟩
  · cases h
theorem loadCellsFrom_runs {b off : Nat} {t : Bool} {c : Array Value} {e : TypeId} {fz : Nat × Nat} {K : Array Value → Asn} {h : PH} (hb : h b = some (t, .cells c e fz)) :
    ∀ (n i : Nat) (acc : Array Value), off + i + n ≤ c.size → K (acc ++ ((c.toList.drop (off + i)).take n).toArray) h →
      Runs P (loadCellsFrom ⟨b, off, none⟩ i n acc) K h := by
  intro n
  induction n with
  | zero => intro i acc _ k; exact Runs.pure (by simpa using k)
  | succ n ih =>
    intro i acc hle k
    have hlt : off + i < c.size := by omega
    refine Runs.bind (Runs.load (v := c[off + i]) (by rw [add_off]; exact hb) (by rw [add_off]) (by rw [add_off]; simp [hlt]) (ih (i + 1) _ (by omega) ?_))
    have e1 : (c.toList.drop (off + i)).take (n + 1) = c[off + i] :: (c.toList.drop (off + (i + 1))).take n := by
      rw [List.drop_eq_getElem_cons (by simpa using hlt)]; simp [Nat.add_assoc]
    rw [e1] at k
    simpa using k
theorem loadVar_runs {t : TypeId} {k : Option Nat} {b off : Nat} {f : Bool} {c : Array Value} {e : TypeId} {fz : Nat × Nat} {v : Value} {K : Value → Asn} {h : PH}
    (hk : ldk P t = some k) (hb : h b = some (f, .cells c e fz)) (hv : rdV c.toList off k = some v) (q : K v h) : Runs P (loadVar t ⟨b, off, none⟩) K h := by
  simp only [ldk, Option.bind_eq_some_iff] at hk
  obtain ⟨d, hd, hk⟩ := hk
  refine Runs.bind (isAgg_runs hd ?_)
  cases ha : isAggD d with
  | false =>
    rw [ha] at hk; cases hk
    simp only [Bool.false_eq_true, if_false]
    exact Runs.load hb rfl (by simpa [rdV] using hv) q
  | true =>
    rw [ha] at hk
    simp only [szk, Option.map_map, Option.map_eq_some_iff] at hk
    obtain ⟨i, hi, hk⟩ := hk
    simp only [Function.comp] at hk
    subst hk
    simp only [rdV, Option.map_eq_some_iff] at hv
    obtain ⟨l, hl, rfl⟩ := hv
    obtain ⟨hle, rfl⟩ := rdCells_some hl
    simp only [if_true]
    refine Runs.bind (Runs.sizeOf hi (Runs.bind (loadCellsFrom_runs (off := off) hb _ 0 #[] (by simpa using hle) (Runs.pure ?_))))
    simpa using q
theorem Ld_sound {t : TypeId} {k : Option Nat} {x : Value} {K : Value → Asn} {h : PH} (hk : ldk P t = some k) (r : Ld k x K h) : Runs P (Instr.loadAt t x) K h := by
  obtain ⟨b, off, f, c, e, fz, v, rfl, hb, hv, q⟩ := r
  exact Runs.bind (Runs.pure (loadVar_runs hk hb hv q))
theorem storeCells_runs {b off : Nat} {e : TypeId} {K : Unit → Asn} : ∀ (l : List Value) (i : Nat) (c : Array Value) (h : PH), h b = some (true, .cells c e (0, 0)) → off + i + l.length ≤ c.size →
    l.all one = true → K () (put h b (true, .cells (wrCells c.toList (off + i) l).toArray e (0, 0))) → Runs P (storeCells ⟨b, off, none⟩ l i) K h := by
  intro l
  induction l with
  | nil =>
    intro i c h hb _ _ k
    have : put h b (true, .cells c e (0, 0)) = h := by
      funext x; by_cases hx : x = b
      · subst hx; simp [put, hb]
      · simp [put, hx]
    simp only [wrCells, Array.toArray_toList, this] at k
    exact Runs.pure k
  | cons v l ih =>
    intro i c h hb hle ho k
    simp only [List.all_cons, Bool.and_eq_true] at ho
    simp only [List.length_cons] at hle
    have hlt : off + i < c.size := by omega
    refine Runs.bind (Runs.store (c := c) (e := e) (u := c[off + i]) (by rw [add_off]; exact hb) (by rw [add_off]) (by rw [add_off]; simp [hlt]) ho.1 ?_)
    rw [add_off]
    refine ih (i + 1) (c.setIfInBounds (off + i) v) _ (put_same _ _ _) (by simp; omega) ho.2 ?_
    have e2 : put (put h b (true, .cells (c.setIfInBounds (off + i) v) e (0, 0))) b = put h b := by
      funext x y; by_cases hy : y = b <;> simp [put, hy]
    rw [e2]
    have e3 : (c.setIfInBounds (off + i) v).toList = c.toList.set (off + i) v := by simp
    rw [e3]
    exact k
theorem St_sound {t : TypeId} {n : Nat} {x v : Value} {K : Value → Asn} {h : PH} (hk : szk P t = some n) (r : St n x v K h) : Runs P (Instr.storeAt t x v) (fun _ => K undef) h := by
  obtain ⟨b, off, c, e, rfl, hb, hn, hle, ho, q⟩ := r
  simp only [szk, Option.map_eq_some_iff] at hk
  obtain ⟨i, hi, hk⟩ := hk
  refine Runs.bind (Runs.pure (Runs.bind (Runs.sizeOf hi ?_)))
  simp only [hn, hk, ne_eq, not_true_eq_false, if_false]
  refine Runs.bind (Runs.pure (storeCells_runs (off := off) v.cells.toList 0 c h hb ?_ ho q))
  have : v.cells.toList.length = n := by simpa using hn
  omega
theorem Nw_row {c : List Value} {f : Nat → Value} {e : TypeId} {K : Value → Asn} {h : PH} (r : Nw e c f K h) (g : Addr → Value) (hg : ∀ b, g ⟨b, 0, none⟩ = f b) :
    Runs P (do pure (g (← newRow e c.toArray))) K h := by
  refine Runs.bind (Runs.bind (Runs.new fun b hb => Runs.pure (Runs.pure ?_)))
  rw [hg]; exact r b hb
theorem Nw_var {v : Value} {f : Nat → Value} {e : TypeId} {K : Value → Asn} {h : PH} (r : Nw e v.cells.toList f K h) (g : Addr → Value) (hg : ∀ b, g ⟨b, 0, none⟩ = f b) :
    Runs P (do pure (g (← newVar e v))) K h := by
  have := Nw_row (P := P) (e := e) r g hg
  simpa [newVar] using this
theorem O_sound {o : Option Value} {K : Value → Asn} {h : PH} {s : Sem Value} (r : O o K h) (e : ∀ v, o = some v → ∀ w, Sat h w → s.run P w = .ok v w) : Runs P s K h := by
  obtain ⟨v, hv, k⟩ := r
  exact Runs.val v (e v hv) k
end
end Go.Sl
namespace Go.Sl
open Go
inductive All2 {α β : Type} (R : α → β → Prop) : List α → List β → Prop
  | nil : All2 R [] []
  | cons {a : α} {b : β} {l : List α} {m : List β} (h : R a b) (t : All2 R l m) : All2 R (a :: l) (b :: m)
section
variable {P : Program}
theorem asBool_run (b : Bool) (w : World) : (asBool (.bool b)).run P w = .ok b w := rfl
theorem asIntOf_run (k : IntKind) (n : Int) (w : World) : (asIntOf (.int k n)).run P w = .ok (k, n) w := rfl
theorem und_run {t : TypeId} {d : TypeDesc} (h : P.underlying t = some d) (w : World) : (underlying t).run P w = .ok d w := by
  simp [underlying, Sem.run_bind, program, Sem.run, h]
theorem info_run {t : TypeId} {i : TypeInfo} (h : P.info? t = some i) (w : World) : (typeInfo t).run P w = .ok i w := by
  simp [typeInfo, Sem.run_bind, program, Sem.run, h]
theorem size_run {t : TypeId} {i : TypeInfo} (h : P.info? t = some i) (w : World) : (sizeOf t).run P w = .ok i.size w := by
  simp [sizeOf, Sem.run_bind, info_run h]
theorem szk_some {t : TypeId} {n : Nat} (h : szk P t = some n) : ∃ i, P.info? t = some i ∧ i.size = n := by
  simpa [szk, Option.map_eq_some_iff] using h
theorem szk_run {t : TypeId} {n : Nat} (h : szk P t = some n) (w : World) : (sizeOf t).run P w = .ok n w := by
  obtain ⟨i, hi, rfl⟩ := szk_some h
  exact size_run hi w
theorem zck_some {t : TypeId} {z : List Value} (h : zck P t = some z) : ∃ i v, P.info? t = some i ∧ i.zero = some v ∧ v.cells.toList = z := by
  simp only [zck, Option.bind_eq_some_iff, Option.map_eq_some_iff] at h
  obtain ⟨i, hi, v, hv, e⟩ := h
  exact ⟨i, v, hi, hv, e⟩
theorem zero_run {t : TypeId} {i : TypeInfo} {v : Value} (h : P.info? t = some i) (hz : i.zero = some v) (w : World) : (zeroValue t).run P w = .ok v w := by
  simp [zeroValue, Sem.run_bind, info_run h, hz]
theorem fok_some {s : TypeId} {f off : Nat} {t : TypeId} (h : fok P s f = some (off, t)) : ∃ fs fd, P.underlying s = some (.struct fs) ∧ fs[f]? = some fd ∧ fd.offset = off ∧ fd.type = t := by
  simp only [fok] at h
  split at h
  · rename_i fs hu
    simp only [Option.map_eq_some_iff, Prod.mk.injEq] at h
    obtain ⟨fd, h1, h2, h3⟩ := h
    exact ⟨fs, fd, hu, h1, h2, h3⟩
  · cases h
theorem elk_some {t : TypeId} {n : Nat} (h : elk P t = some n) : ∃ e, P.underlying t = some (.slice e) ∧ szk P e = some n := by
  simp only [elk] at h
  split at h
  · rename_i e hu; exact ⟨e, hu, h⟩
  · cases h
theorem isStr_some {t : TypeId} (h : isStr P t = true) : P.underlying t = some .string := by
  simp only [isStr] at h
  split at h
  · assumption
  · cases h
theorem intk_some {t : TypeId} {k : IntKind} (h : intk P t = some k) : P.underlying t = some (.int k) := by
  simp only [intk] at h
  split at h
  · cases h; assumption
  · cases h
theorem ldk_some {t : TypeId} {k : Option Nat} (h : ldk P t = some k) : ∃ d, P.underlying t = some d ∧ ((isAggD d = true ∧ ∃ n, szk P t = some n ∧ k = some n) ∨ (isAggD d = false ∧ k = none)) := by
  simp only [ldk, Option.bind_eq_some_iff] at h
  obtain ⟨d, hd, h⟩ := h
  refine ⟨d, hd, ?_⟩
  cases ha : isAggD d with
  | true => rw [ha] at h; simp only [Option.map_eq_some_iff] at h; obtain ⟨n, hn, e⟩ := h; exact .inl ⟨rfl, n, hn, e.symm⟩
  | false => rw [ha] at h; cases h; exact .inr ⟨rfl, rfl⟩
theorem isAgg_run {t : TypeId} {d : TypeDesc} (h : P.underlying t = some d) (w : World) : (isAgg t).run P w = .ok (isAggD d) w := by
  cases d <;> simp [isAgg, Sem.run_bind, und_run h, isAggD]
theorem fill_eq (place : Nat → Option (Nat × Nat)) : ∀ (parts : List (Nat × Value)) (l : List (Nat × Nat × Value)) (cells : Array Value) (c : List Value),
    All2 (fun p q => place p.1 = some (q.1, q.2.1) ∧ p.2 = q.2.2) parts l → bldV cells.toList l = some c → Instr.fill place cells parts = some c.toArray := by
  intro parts
  induction parts with
  | nil => intro l cells c h e; cases h; simp only [bldV, Option.some.injEq] at e; simp [Instr.fill, ← e]
  | cons p parts ih =>
    intro l cells c h e
    cases h with
    | cons hp hr =>
      rename_i q l'
      obtain ⟨i, v⟩ := p
      obtain ⟨off, n, v'⟩ := q
      obtain ⟨h1, rfl⟩ := hp
      simp only [bldV, Option.bind_eq_some_iff, placeIn] at e
      obtain ⟨c', e1, e2⟩ := e
      split at e1
      · rename_i hc
        cases e1
        have hlen : off + v.cells.size ≤ cells.size := by have := hc.2; rw [hc.1]; simpa using this
        have key : ∀ (l : List Value) (k : Nat) (cs : Array Value), (l.zipIdx k).foldl (fun cs (x : Value × Nat) => cs.setIfInBounds (off + x.2) x.1) cs = (wrCells cs.toList (off + k) l).toArray := by
          intro l
          induction l with
          | nil => intro k cs; simp [wrCells]
          | cons a l ihl => intro k cs; simp only [List.zipIdx_cons, List.foldl_cons, wrCells]; rw [ihl]; simp [Nat.add_assoc]
        have hfold : v.cells.zipIdx.foldl (fun cs (x : Value × Nat) => cs.setIfInBounds (off + x.2) x.1) cells = (wrCells cells.toList off v.cells.toList).toArray := by
          have := key v.cells.toList 0 cells
          rw [Nat.add_zero] at this
          rw [← this, ← Array.foldl_toList]; simp
        simp only [Instr.fill, h1]
        rw [if_neg (by simp [hc.1]; omega)]
        have := ih l' (wrCells cells.toList off v.cells.toList).toArray c hr (by simpa using e2)
        rw [← hfold] at this
        exact this
      · cases e1
theorem placesS_eq (fs : Array Field) (ρ : Operand → Value) : ∀ (parts : List (Nat × Operand)) (l : List (Nat × Nat × Value)), placesS P fs ρ parts = some l →
    All2 (fun p q => (∃ fd, fs[p.1]? = some fd ∧ fd.offset = q.1 ∧ szk P fd.type = some q.2.1) ∧ ρ p.2 = q.2.2) parts l := by
  intro parts
  induction parts with
  | nil => intro l h; cases h; exact .nil
  | cons p parts ih =>
    intro l h
    obtain ⟨i, x⟩ := p
    simp only [placesS, Option.bind_eq_some_iff, Option.map_eq_some_iff] at h
    obtain ⟨fd, h1, n, h2, l', h3, rfl⟩ := h
    exact .cons ⟨⟨fd, h1, rfl, h2⟩, rfl⟩ (ih l' h3)
theorem placesE_eq (size : Nat) (ρ : Operand → Value) : ∀ (parts : List (Nat × Operand)),
    All2 (fun p q => q.1 = p.1 * size ∧ q.2.1 = size ∧ ρ p.2 = q.2.2) parts (placesE size ρ parts) := by
  intro parts
  induction parts with
  | nil => exact .nil
  | cons p parts ih => obtain ⟨i, x⟩ := p; exact .cons ⟨rfl, rfl, rfl⟩ ih
end
end Go.Sl
namespace Go.Sl
open Go
section
variable {P : Program} {K : Value → Asn} {h : PH}
theorem fold_run {fs : Array Field} : ∀ {parts : List (Nat × Operand)} {ρ : Operand → Value} {l : List (Nat × Nat × Value)},
    All2 (fun p q => (∃ fd, fs[p.1]? = some fd ∧ fd.offset = q.1 ∧ szk P fd.type = some q.2.1) ∧ ρ p.2 = q.2.2) parts l →
    ∀ places : Array (Nat × Nat), (∀ (i : Nat) (fd : Field), fs[i]? = some fd → ∀ n, szk P fd.type = some n → places[i]? = some (fd.offset, n)) →
    All2 (fun (p : Nat × Value) q => places[p.1]? = some (q.1, q.2.1) ∧ p.2 = q.2.2) (parts.map fun (i, x) => (i, ρ x)) l := by
  intro parts ρ l h places hp
  induction h with
  | nil => exact .nil
  | cons hh _ ih =>
    obtain ⟨⟨fd, h1, h2, h3⟩, h4⟩ := hh
    exact .cons ⟨by rw [hp _ fd h1 _ h3, h2], h4⟩ ih
theorem mapM_run {α β : Type} (f : α → Sem β) (g : α → β) : ∀ (l : List α) (w : World), (∀ x ∈ l, ∀ w, (f x).run P w = .ok (g x) w) → (l.mapM f).run P w = .ok (l.map g) w := by
  intro l
  induction l with
  | nil => intro w _; rfl
  | cons a l ih =>
    intro w hf
    rw [List.mapM_cons, Sem.run_bind, hf a (by simp) w]
    simp only [Result.andThen_ok, Sem.run_bind]
    rw [ih w fun x hx => hf x (by simp [hx])]
    rfl
theorem build_sound {t : TypeId} {parts : Array (Nat × Operand)} {ρ : Operand → Value}
    (r : vBuild P t parts ρ K h) :
    Runs P (Instr.build t (parts.map fun (i, x) => (i, ρ x))) K h := by
  cases hu : P.underlying t with
  | none => simp only [vBuild, hu] at r; exact r.elim
  | some d =>
  cases hz : zck P t with
  | none => simp only [vBuild, hu, hz] at r; cases d <;> exact (r : False).elim
  | some z =>
  simp only [vBuild, hu, hz] at r
  obtain ⟨i, v, hi, hv, rfl⟩ := zck_some hz
  cases d <;> first | exact (r : False).elim | skip
  case struct fs =>
    cases hall : fs.toList.all fun f => (szk P f.type).isSome with
    | false => simp only [hall] at r; exact r.elim
    | true =>
    simp only [hall] at r
    cases hl : placesS P fs ρ parts.toList with
    | none => simp only [hl] at r; exact r.elim
    | some l =>
      simp only [hl] at r
      refine O_sound r fun u hu' w _ => ?_
      simp only [aggO, Option.map_eq_some_iff] at hu'
      obtain ⟨c, hc, rfl⟩ := hu'
      have hpl : ∃ places : Array (Nat × Nat), ((fs.mapM fun f => do pure (f.offset, ← sizeOf f.type) : Sem (Array (Nat × Nat))).run P w = .ok places w) ∧
          ∀ (i : Nat) (fd : Field), fs[i]? = some fd → ∀ n, szk P fd.type = some n → places[i]? = some (fd.offset, n) := by
        refine ⟨fs.map fun f => (f.offset, (szk P f.type).getD 0), ?_, ?_⟩
        · rw [← Array.toArray_toList (xs := fs)]
          rw [List.mapM_toArray, map_eq_pure_bind, Sem.run_bind]
          rw [mapM_run _ (fun f : Field => (f.offset, (szk P f.type).getD 0))]
          · simp only [Result.andThen_ok, Sem.run_pure]
            exact congrArg (Result.ok · w) (Array.ext' (by simp))
          · intro fd hfd w
            obtain ⟨n, hn⟩ := Option.isSome_iff_exists.1 (List.all_eq_true.1 hall fd hfd)
            simp [Sem.run_bind, szk_run hn, hn]
        · intro i fd hfd n hn
          simp [hfd, hn]
      obtain ⟨places, hp1, hp2⟩ := hpl
      have ha := fold_run (placesS_eq fs ρ parts.toList l hl) places hp2
      have hf := fill_eq (places[·]?) _ l v.cells c ha hc
      simp only [Instr.build, Sem.run_bind, zero_run hi hv, Result.andThen_ok, und_run hu, hp1]
      have e : (parts.map fun (i, x) => (i, ρ x)).toList = parts.toList.map fun (i, x) => (i, ρ x) := by simp
      rw [e, hf]
      rfl
  case array n e =>
    cases hk : szk P e with
    | none => simp only [hk] at r; exact r.elim
    | some k =>
      simp only [hk] at r
      refine O_sound r fun u hu' w _ => ?_
      simp only [aggO, Option.map_eq_some_iff] at hu'
      obtain ⟨c, hc, rfl⟩ := hu'
      have ha : All2 (fun (p : Nat × Value) q => (fun i => some (i * k, k)) p.1 = some (q.1, q.2.1) ∧ p.2 = q.2.2) (parts.toList.map fun (i, x) => (i, ρ x)) (placesE k ρ parts.toList) := by
        have := placesE_eq k ρ parts.toList
        generalize parts.toList = ps at this ⊢
        generalize placesE k ρ ps = qs at this ⊢
        induction this with
        | nil => exact .nil
        | cons hh _ ih => obtain ⟨h1, h2, h3⟩ := hh; exact .cons ⟨by simp [h1, h2], h3⟩ ih
      have hf := fill_eq (fun i => some (i * k, k)) _ _ v.cells c ha hc
      simp only [Instr.build, Sem.run_bind, zero_run hi hv, Result.andThen_ok, und_run hu, szk_run hk]
      have e : (parts.map fun (i, x) => (i, ρ x)).toList = parts.toList.map fun (i, x) => (i, ρ x) := by simp
      rw [e, hf]
      rfl
end
end Go.Sl
namespace Go.Sl
open Go
section
variable {P : Program} {K : Value → Asn} {h : PH}
theorem rep_length (z : List Value) (n : Nat) : (rep z n).length = n * z.length := by
  induction n with
  | zero => simp [rep]
  | succ n ih => simp [rep, ih, Nat.succ_mul, Nat.add_comm]
theorem rep_range (z : Array Value) (k : Nat) (hz : z.size = k) (n : Nat) : (List.range (n * k)).map (fun i => z[i % k]!) = rep z.toList n := by
  apply List.ext_getElem?
  intro i
  rcases Nat.lt_or_ge i (n * k) with hi | hi
  · have hk : 0 < k := by
      rcases Nat.eq_zero_or_pos k with e | e
      · subst e; simp at hi
      · exact e
    rw [List.getElem?_map, List.getElem?_range hi]
    simp only [Option.map_some]
    induction n generalizing i with
    | zero => simp at hi
    | succ n ih =>
      simp only [rep]
      have hl : z.toList.length = k := by simpa using hz
      rcases Nat.lt_or_ge i k with h1 | h1
      · rw [List.getElem?_append_left (by omega), Nat.mod_eq_of_lt h1]
        have : i < z.size := by omega
        simp [this]
      · rw [List.getElem?_append_right (by omega), hl]
        have h2 : i - k < n * k := by rw [Nat.succ_mul] at hi; omega
        rw [← ih (i - k) h2]
        congr 2
        rw [Nat.mod_eq_sub_mod h1]
  · rw [List.getElem?_eq_none (by simpa using hi), List.getElem?_eq_none]
    have := rep_length z.toList n
    have hl : z.toList.length = k := by simpa using hz
    rw [this, hl]; exact hi
theorem buildSlice_sound {t : TypeId} {n : Nat} {parts : Array (Nat × Operand)} {ρ : Operand → Value} (r : vBuildSlice P t n parts ρ K h) :
    Runs P (Instr.buildSlice t n (parts.map fun (i, x) => (i, ρ x))) K h := by
  cases hu : P.underlying t with
  | none => simp only [vBuildSlice, hu] at r; exact r.elim
  | some d =>
  simp only [vBuildSlice, hu] at r
  cases d <;> first | exact (r : False).elim | skip
  case slice e =>
  cases hk : szk P e with
  | none => simp only [hk] at r; exact r.elim
  | some k =>
  cases hz : zck P e with
  | none => simp only [hk, hz] at r; exact r.elim
  | some z =>
  simp only [hk, hz] at r
  cases hc : Nat.beq z.length k && Nat.ble (n * k) 16777216 with
  | false => simp only [hc] at r; exact r.elim
  | true =>
  simp only [hc] at r
  simp only [Bool.and_eq_true] at hc
  have hzl : z.length = k := Nat.eq_of_beq_eq_true hc.1
  have hle : n * k ≤ 16777216 := Nat.le_of_ble_eq_true hc.2
  obtain ⟨i, v, hi, hv, rfl⟩ := zck_some hz
  obtain ⟨c, hcc, r⟩ := r
  obtain ⟨i', hi', hsz⟩ := szk_some hk
  have e1 : i' = i := by rw [hi] at hi'; cases hi'; rfl
  subst e1
  refine Runs.bind (Runs.underlying hu (Runs.bind (Runs.sizeOf hi ?_)))
  rw [hsz]
  have hng : ¬ n * k > 2 ^ 24 := by omega
  have hvs : v.cells.size = k := by simpa using hzl
  dsimp only
  rw [if_neg hng]
  have key : ∀ zero : Array Value, (n * k = 0 ∨ zero = v.cells) → ((Array.range (n * k)).map (zero[· % zero.size]!)) = (rep v.cells.toList n).toArray := by
    intro zero hzero
    rcases hzero with h0 | h0
    · have : (rep v.cells.toList n) = [] := by
        apply List.eq_nil_of_length_eq_zero
        rw [rep_length, hzl, h0]
      rw [h0, this]; simp
    · subst h0
      rw [hvs]
      apply Array.ext'
      rw [Array.toList_map, Array.toList_range]
      exact rep_range v.cells k hvs n
  have hf : ∀ zero : Array Value, (n * k = 0 ∨ zero = v.cells) → Instr.fill (fun i => some (i * k, k)) ((Array.range (n * k)).map (zero[· % zero.size]!)) (parts.map fun (i, x) => (i, ρ x)).toList = some c.toArray := by
    intro zero hzero
    rw [key zero hzero]
    have ha : All2 (fun (p : Nat × Value) q => (fun i => some (i * k, k)) p.1 = some (q.1, q.2.1) ∧ p.2 = q.2.2) (parts.toList.map fun (i, x) => (i, ρ x)) (placesE k ρ parts.toList) := by
      have := placesE_eq k ρ parts.toList
      generalize parts.toList = ps at this ⊢
      generalize placesE k ρ ps = qs at this ⊢
      induction this with
      | nil => exact .nil
      | cons hh _ ih => obtain ⟨h1, h2, h3⟩ := hh; exact .cons ⟨by simp [h1, h2], h3⟩ ih
    have e : (parts.map fun (i, x) => (i, ρ x)).toList = parts.toList.map fun (i, x) => (i, ρ x) := by simp
    rw [e]
    exact fill_eq (fun i => some (i * k, k)) _ _ _ c ha (by simpa using hcc)
  by_cases h0 : n * k = 0
  · rw [if_pos h0, pure_bind, hf #[] (.inl h0)]
    exact Nw_row r (fun a => .slice (some a) n n) (fun _ => rfl)
  · rw [if_neg h0]
    refine Runs.bind (Runs.zeroValue hi hv ?_)
    rw [pure_bind, hf v.cells (.inr rfl)]
    exact Nw_row r (fun a => .slice (some a) n n) (fun _ => rfl)
end
end Go.Sl
namespace Go.Sl
open Go
section
variable {P : Program} {K : Value → Asn} {h : PH}
theorem VB_sound {c a b : Value} (r : VB c (K a) (K b) h) : Runs P (do pure (if ← asBool c then a else b) : Sem Value) K h := by
  obtain ⟨t, rfl, q⟩ := VB_cases r
  refine Runs.val (if t then a else b) (fun w _ => by simp [Sem.run_bind, asBool_run]) ?_
  cases t <;> exact q
theorem nilV_run {x v : Value} (h : nilV x = some v) : v = x ∧ ((∃ a, x = .pointer (some a)) ∨ ∃ f a b, x = .func (.func f) a b) := by
  cases x with
  | pointer a => cases a with
    | none => cases h
    | some a => cases h; exact ⟨rfl, .inl ⟨a, rfl⟩⟩
  | func f a b => cases f <;> first | (cases h; exact ⟨rfl, .inr ⟨_, _, _, rfl⟩⟩) | cases h
  | _ => cases h
theorem fieldPlace_runs {a : Addr} {f : Field} {n : Nat} {K : Addr → Asn} (hk : szk P f.type = some (n + 1)) (k : K (a.add f.offset) h) : Runs P (fieldPlace a f) K h := by
  obtain ⟨i, hi, hs⟩ := szk_some hk
  refine Runs.bind (Runs.sizeOf hi ?_)
  rw [hs, if_neg (by omega)]
  exact Runs.pure k
theorem fieldAddr_sound {s : TypeId} {f : Nat} {x : Value} {off n : Nat} {t : TypeId} (hf : fok P s f = some (off, t)) (hs : szk P t = some (n + 1)) (r : O (addV off x) K h) :
    Runs P (Instr.fieldAt s x f) K h := by
  obtain ⟨fs, fd, hu, hfd, rfl, rfl⟩ := fok_some hf
  obtain ⟨v, hv, q⟩ := r
  cases x with
  | pointer a =>
    cases a with
    | none => cases hv
    | some a =>
      obtain ⟨b, o, sp⟩ := a
      cases sp with
      | some s => cases hv
      | none =>
        cases hv
        refine Runs.bind (Runs.underlying hu ?_)
        dsimp only
        rw [hfd]
        refine Runs.bind (Runs.pure (Runs.bind (fieldPlace_runs hs ?_)))
        rw [add_off]
        exact Runs.pure q
  | _ => cases hv
theorem part_run {t : TypeId} {k : Option Nat} {cs : Array Value} {off : Nat} {v : Value} (hk : ldk P t = some k) (hv : rdV cs.toList off k = some v) (w : World) :
    (part t cs off).run P w = .ok v w := by
  obtain ⟨d, hd, h⟩ := ldk_some hk
  rcases h with ⟨ha, n, hn, rfl⟩ | ⟨ha, rfl⟩
  · simp only [rdV, Option.map_eq_some_iff] at hv
    obtain ⟨l, hl, rfl⟩ := hv
    obtain ⟨hle, rfl⟩ := rdCells_some hl
    simp only [part, Sem.run_bind, isAgg_run hd, ha, Result.andThen_ok, if_true, szk_run hn, Sem.run_pure]
    congr 2
    apply Array.ext'
    simp [Array.toList_extract, List.extract_eq_take_drop]
  · simp only [rdV] at hv
    have : cs[off]? = some v := by simpa using hv
    simp [part, Sem.run_bind, isAgg_run hd, ha, this]
theorem field_sound {s : TypeId} {f : Nat} {x : Value} {off : Nat} {t : TypeId} {k : Option Nat} (hf : fok P s f = some (off, t)) (hk : ldk P t = some k) (r : O (fldV off k x) K h) :
    Runs P (Instr.field s x f) K h := by
  obtain ⟨fs, fd, hu, hfd, rfl, rfl⟩ := fok_some hf
  refine O_sound r fun v hv w _ => ?_
  cases x with
  | agg cs =>
    simp only [fldV] at hv
    simp only [Instr.field, Sem.run_bind, und_run hu, Result.andThen_ok, hfd]
    simp [asAgg, Sem.run_bind, part_run hk hv]
  | _ => cases hv
theorem idx_sound {t : TypeId} {x i : Value} {n : Nat} (he : elk P t = some n) (r : O (idxV n x i) K h) : Runs P (Instr.indexAt t x i) K h := by
  obtain ⟨e, hu, hs⟩ := elk_some he
  refine O_sound r fun v hv w _ => ?_
  cases x <;> first | (cases hv; done) | skip
  rename_i a len cap
  cases a with
  | none => cases hv
  | some a =>
    obtain ⟨b, off, sp⟩ := a
    cases sp with
    | some s => cases hv
    | none =>
      cases i <;> first | (cases hv; done) | skip
      rename_i k m
      simp only [idxV] at hv
      split at hv
      · rename_i hc
        cases hv
        simp [Instr.indexAt, Sem.run_bind, asIntOf_run, und_run hu, hc, szk_run hs, add_off]
      · cases hv
theorem sidx_sound {t : TypeId} {x i : Value} (he : isStr P t = true) (r : O (sidxV x i) K h) : Runs P (Instr.index t x i) K h := by
  have hu := isStr_some he
  refine O_sound r fun v hv w _ => ?_
  cases x <;> first | (cases hv; done) | skip
  rename_i s
  cases i <;> first | (cases hv; done) | skip
  rename_i k m
  simp only [sidxV] at hv
  split at hv
  · rename_i hc
    cases hs : s[m.toNat]? with
    | none => rw [hs] at hv; cases hv
    | some c =>
      rw [hs] at hv; cases hv
      simp [Instr.index, Sem.run_bind, asIntOf_run, und_run hu, hc, hs]
  · cases hv
theorem bnd_run {x : Value} {y n : Nat} {code : BoundsCode} (hb : bndV x y = some n) (w : World) : (Instr.sliceBound x y code).run P w = .ok n w := by
  cases x <;> first | (cases hb; done) | skip
  rename_i k m
  simp only [bndV] at hb
  split at hb
  · rename_i hc; cases hb; simp [Instr.sliceBound, Sem.run_bind, asIntOf_run, hc]
  · cases hb
theorem cv_sound {a b : TypeId} {k k' : IntKind} {x : Value} (ha : intk P a = some k') (hb : intk P b = some k) (r : O (cvV k x) K h) : Runs P (convert a b x) K h := by
  have h1 := intk_some ha
  have h2 := intk_some hb
  refine O_sound r fun v hv w _ => ?_
  cases x <;> first | (cases hv; done) | skip
  rename_i j m
  cases hv
  simp [convert, Sem.run_bind, und_run h1, und_run h2, Conv.intToInt]
theorem convert_sound {a b : TypeId} {x : Value} (r : vConvert P a b x K h) : Runs P (convert a b x) K h := by
  unfold vConvert at r
  cases ha : intk P a with
  | none =>
    simp only [ha] at r
    cases he : elk P a with
    | none => simp only [he] at r; exact r
    | some n => simp only [he] at r; obtain ⟨v, e, k⟩ := r; exact Runs.val v e k
  | some k' =>
    cases hb : intk P b with
    | none => simp only [ha, hb] at r; exact r
    | some k => simp only [ha, hb] at r; exact cv_sound ha hb r
theorem addA_map (a : Option Addr) (n : Nat) : a.map (addA · n) = a.map (·.add n) := by cases a <;> simp [addA_eq]
theorem optb_some {lo : Option Value} {y n : Nat} {d : Nat} {code : BoundsCode} (hb : (match lo with | some v => bndV v y | none => some d) = some n) (w : World) :
    (match lo with | some v => Instr.sliceBound v y code | none => pure d).run P w = .ok n w := by
  cases lo with
  | none => cases hb; rfl
  | some v => exact bnd_run hb w
theorem slcV_run {size len cap : Nat} {a : Option Addr} {lo hi mx : Option Value} {v : Value} (hv : slcV size (.slice a len cap) lo hi mx = some v) (w : World) :
    ∃ l h m, (Instr.sliceBounds true len cap lo hi mx).run P w = .ok (l, h, m) w ∧ v = .slice (if m = l then a else a.map (·.add (l * size))) (h - l) (m - l) := by
  simp only [slcV, Option.bind_eq_some_iff, Option.some.injEq, addA_map] at hv
  obtain ⟨m, hm, h, hh, l, hl, rfl⟩ := hv
  refine ⟨l, h, m, ?_, rfl⟩
  cases mx with
  | none =>
    cases hm
    cases hi with
    | none =>
      cases hh
      cases lo with
      | none => cases hl; simp [Instr.sliceBounds]
      | some v => simp only [] at hl; simp [Instr.sliceBounds, Sem.run_bind, bnd_run hl]
    | some u =>
      simp only [] at hh
      cases lo with
      | none => cases hl; simp [Instr.sliceBounds, Sem.run_bind, bnd_run hh]
      | some v => simp only [] at hl; simp [Instr.sliceBounds, Sem.run_bind, bnd_run hl, bnd_run hh]
  | some x =>
    simp only [] at hm
    cases hi with
    | none => cases hh
    | some u =>
      simp only [] at hh
      cases lo with
      | none => cases hl; simp [Instr.sliceBounds, Sem.run_bind, bnd_run hh, bnd_run hm]
      | some v => simp only [] at hl; simp [Instr.sliceBounds, Sem.run_bind, bnd_run hl, bnd_run hh, bnd_run hm]
theorem slcS_run {s : ByteArray} {lo hi : Option Value} {v : Value} (hv : slcS (.string s) lo hi = some v) (w : World) :
    ∃ l h m, (Instr.sliceBounds false s.size s.size lo hi none).run P w = .ok (l, h, m) w ∧ v = .string (s.extract l h) := by
  simp only [slcS, Option.bind_eq_some_iff, Option.some.injEq] at hv
  obtain ⟨h, hh, l, hl, rfl⟩ := hv
  refine ⟨l, h, s.size, ?_, rfl⟩
  cases hi with
  | none =>
    cases hh
    cases lo with
    | none => cases hl; simp [Instr.sliceBounds]
    | some v => simp only [] at hl; simp [Instr.sliceBounds, Sem.run_bind, bnd_run hl]
  | some u =>
    simp only [] at hh
    cases lo with
    | none => cases hl; simp [Instr.sliceBounds, Sem.run_bind, bnd_run hh]
    | some v => simp only [] at hl; simp [Instr.sliceBounds, Sem.run_bind, bnd_run hl, bnd_run hh]
theorem slice_sound {t : TypeId} {x : Value} {lo hi mx : Option Value} (r : vSlice P t x lo hi mx K h) : Runs P (Instr.sliceAt t x lo hi mx) K h := by
  unfold vSlice at r
  cases he : elk P t with
  | some n =>
    simp only [he] at r
    obtain ⟨e, hu, hs⟩ := elk_some he
    refine O_sound r fun v hv w _ => ?_
    cases x <;> first | (simp only [slcV] at hv; cases hv; done) | skip
    rename_i a len cap
    obtain ⟨l, hh, m, e1, rfl⟩ := slcV_run (P := P) hv w
    simp [Instr.sliceAt, Instr.slice, Sem.run_bind, und_run hu, e1, szk_run hs]
  | none =>
    cases hs : isStr P t with
    | false => simp only [he, hs] at r; exact r
    | true =>
      simp only [he, hs] at r
      have hu := isStr_some hs
      cases mx with
      | some _ => exact r.elim
      | none =>
      refine O_sound r fun v hv w _ => ?_
      cases x <;> first | (simp only [slcS] at hv; cases hv; done) | skip
      rename_i s
      obtain ⟨l, hh, m, e1, rfl⟩ := slcS_run (P := P) hv w
      simp [Instr.sliceAt, Instr.slice, Sem.run_bind, und_run hu, e1]
end
end Go.Sl
namespace Go.Sl
open Go
section
variable {P : Program} {K : Value → Asn} {h : PH}
theorem cmp_run {op : BinOp} {x y : Int} {v : Value} (hv : cmpI op x y = some v) (w : World) : (Op.intCmp op x y).run P w = .ok v w := by
  cases op <;> first | (cases hv; done) | (cases hv; rfl)
theorem ar_run {op : BinOp} {k : IntKind} {x y : Int} {v : Value} (hv : arI op k x y = some v) (hop : op ≠ .shl) (hop' : op ≠ .shr) (t : TypeId) (w : World) :
    (binOp op t (.int k x) (.int k y)).run P w = .ok v w := by
  cases op <;> first | exact (hop rfl).elim | exact (hop' rfl).elim | skip
  case quo =>
    simp only [arI] at hv
    split at hv
    · cases hv
    · rename_i hz; cases hv; simp [binOp, Op.intDiv, hz]
  case rem =>
    simp only [arI] at hv
    split at hv
    · cases hv
    · rename_i hz; cases hv; simp [binOp, Op.intDiv, hz]
  all_goals first
    | (cases hv; simp [binOp, Op.intArith, Op.intBits, Op.intCmp]; done)
    | (simp only [arI, cmpI] at hv; cases hv; done)
theorem str_run {op : BinOp} {x y : ByteArray} {v : Value} (hv : strV op x y = some v) (t : TypeId) (w : World) : (binOp op t (.string x) (.string y)).run P w = .ok v w := by
  cases op <;> first | (cases hv; done) | skip
  case add =>
    simp only [strV] at hv
    split at hv
    · cases hv
    · rename_i hz; cases hv
      simp only [binOp, Op.stringOp]
      rw [if_neg hz]; rfl
  all_goals (cases hv; simp [binOp, Op.stringOp])
theorem bin_run {op : BinOp} {x y v : Value} (hv : binV op x y = some v) (t : TypeId) (w : World) : (binOp op t x y).run P w = .ok v w := by
  cases x <;> first | (cases hv; done) | skip
  · rename_i k a
    cases y <;> first | (cases hv; done) | skip
    rename_i k' b
    simp only [binV] at hv
    split at hv
    · split at hv
      · cases hv
      · rename_i hb; cases hv; simp [binOp, Op.shift, hb]
    · split at hv
      · cases hv
      · rename_i hb; cases hv; simp [binOp, Op.shift, hb]
    · rename_i h1 h2
      split at hv
      · rename_i hk; subst hk; exact ar_run hv (fun e => h1 e) (fun e => h2 e) t w
      · cases hv
  · rename_i a
    cases y <;> first | (cases hv; done) | skip
    exact str_run hv t w
theorem guard_num {op : BinOp} {x y v : Value} (hv : binV op x y = some v) (t : TypeId) (p q : Operand) (w : World) : (eqGuard op t p q x y).run P w = .ok () w := by
  cases x <;> first | (cases hv; done) | skip
  all_goals
    cases y <;> first | (cases hv; done) | skip
    unfold eqGuard
    split <;> rfl
theorem guard_nil {op : BinOp} {k : NK} {x y : Value} {b : Bool} (hv : nilEq k x y = some b) (t : TypeId) (p q : Operand) (w : World) : (eqGuard op t p q x y).run P w = .ok () w := by
  unfold nilEq at hv
  split at hv <;> first | (cases hv; done) | skip
  all_goals
    unfold eqGuard
    split <;> rfl
theorem equal_eq (t : TypeId) (x y : Value) : Op.equal t x y = Op.equalIn (9999 + 1) t x y := rfl
theorem eqk_und {t : TypeId} {k : NK} (h : eqk P t = .nil k) : ∃ d, P.underlying t = some d ∧
    (match k, d with | .b, .bool | .s, .slice _ | .m, .map _ _ | .f, .func _ _ _ => True | .p, .pointer e => ∃ n, szk P e = some n | _, _ => False) := by
  unfold eqk at h
  split at h <;> first | (cases h; done) | skip
  all_goals first
    | (cases h; exact ⟨_, by assumption, trivial⟩)
    | (rename_i e hu; cases hz : szk P e with
        | none => simp only [hz] at h; cases h
        | some n => simp only [hz] at h; cases h; exact ⟨_, hu, n, hz⟩)
theorem nil_run {t : TypeId} {k : NK} {x y : Value} {b : Bool} (hd : eqk P t = .nil k) (hv : nilEq k x y = some b) (w : World) :
    (Op.equal t x y).run P w = .ok b w := by
  rw [equal_eq]
  unfold Op.equalIn
  obtain ⟨d, hu, hk⟩ := eqk_und hd
  rw [Sem.run_bind, und_run hu]
  unfold nilEq at hv
  split at hv <;> first | (cases hv; done) | skip
  all_goals
    cases d <;> first | exact hk.elim | skip
  case h_3.pointer e =>
    split at hv <;> cases hv
    rename_i ha
    subst ha
    obtain ⟨n, hn⟩ := hk
    simp only [szk, Option.map_eq_some_iff] at hn
    obtain ⟨i, hi, rfl⟩ := hn
    simp only [Result.andThen_ok, sizeOf, typeInfo, Sem.run_bind, Go.program, Sem.run, hi, Sem.run_pure]
    by_cases h0 : i.size ≠ 0
    · simp [h0, sameAddr]
    · simp [h0]
  all_goals
    cases hv
    rfl
theorem eql_run {t : TypeId} {k : NK} {x y : Value} {b : Bool} (hd : eqk P t = .nil k) (hv : nilEq k x y = some b) (w : World) :
    (binOp .eql t x y).run P w = .ok (.bool b) w ∧ (binOp .neq t x y).run P w = .ok (.bool !b) w := by
  have he := nil_run hd hv w
  have e1 : binOp .eql t x y = (do pure (.bool (← Op.equal t x y))) := by
    unfold nilEq at hv
    split at hv <;> first | (cases hv; done) | rfl
  have e2 : binOp .neq t x y = (do pure (.bool (!(← Op.equal t x y)))) := by
    unfold nilEq at hv
    split at hv <;> first | (cases hv; done) | rfl
  rw [e1, e2]
  simp [Sem.run_bind, he]
theorem vBin_sound {op : BinOp} {t : TypeId} {x y : Operand} {ρ : Operand → Value} (r : vBin P op t x y ρ K h) :
    Runs P (do eqGuard op t x y (ρ x) (ρ y); binOp op t (ρ x) (ρ y)) K h := by
  have num : ∀ {op : BinOp}, O (binV op (ρ x) (ρ y)) K h → Runs P (do eqGuard op t x y (ρ x) (ρ y); binOp op t (ρ x) (ρ y)) K h := by
    intro op r
    refine O_sound r fun v hv w _ => ?_
    rw [Sem.run_bind, guard_num hv t x y w]
    exact bin_run hv t w
  cases op <;> first | exact num r | skip
  · simp only [vBin] at r
    cases hd : eqk P t with
    | num => simp only [hd] at r; exact num r
    | other => simp only [hd] at r; obtain ⟨v, e, k⟩ := r; exact Runs.val v e k
    | nil k =>
      simp only [hd] at r
      refine O_sound r fun v hv w _ => ?_
      simp only [Option.map_eq_some_iff] at hv
      obtain ⟨b, hb, rfl⟩ := hv
      rw [Sem.run_bind, guard_nil hb t x y w]
      exact (eql_run hd hb w).1
  · simp only [vBin] at r
    cases hd : eqk P t with
    | num => simp only [hd] at r; exact num r
    | other => simp only [hd] at r; obtain ⟨v, e, k⟩ := r; exact Runs.val v e k
    | nil k =>
      simp only [hd] at r
      refine O_sound r fun v hv w _ => ?_
      simp only [Option.map_eq_some_iff] at hv
      obtain ⟨b, hb, rfl⟩ := hv
      rw [Sem.run_bind, guard_nil hb t x y w]
      exact (eql_run hd hb w).2
end
end Go.Sl
namespace Go.Sl
open Go
section
variable {P : Program} {K : Value → Asn} {h : PH}
theorem un_sound {op : UnOp} {x : Value} (r : vUn P op x K h) : Runs P (Op.unary op x) K h := by
  cases op <;> first | exact r | skip
  · refine O_sound r fun v hv w _ => ?_
    cases x <;> first | (cases hv; done) | (cases hv; rfl)
  · refine O_sound r fun v hv w _ => ?_
    cases x <;> first | (cases hv; done) | (cases hv; rfl)
theorem max_run {x y v : Value} (hv : maxV x y = some v) (ts : Array TypeId) (ty : TypeId) (w : World) : (Builtin.max_ ts ty #[x, y]).run P w = .ok v w := by
  cases x <;> first | (cases hv; done) | skip
  cases y <;> first | (cases hv; done) | skip
  cases hv
  simp [Builtin.max_, Builtin.max2, List.foldlM]
theorem min_run {x y v : Value} (hv : minV x y = some v) (ts : Array TypeId) (ty : TypeId) (w : World) : (Builtin.min_ ts ty #[x, y]).run P w = .ok v w := by
  cases x <;> first | (cases hv; done) | skip
  cases y <;> first | (cases hv; done) | skip
  cases hv
  simp [Builtin.min_, Builtin.min2, List.foldlM]
theorem lenk_str {ts : Array TypeId} (hl : lenk P ts = .str) : ∃ t, ts[0]? = some t ∧ P.underlying t = some .string := by
  unfold lenk at hl
  split at hl
  · split at hl <;> first | (cases hl; done) | skip
    exact ⟨_, by assumption, by assumption⟩
  · cases hl
theorem lenk_sl {ts : Array TypeId} (hl : lenk P ts = .sl) : ∃ t e, ts[0]? = some t ∧ P.underlying t = some (.slice e) := by
  unfold lenk at hl
  split at hl
  · split at hl <;> first | (cases hl; done) | skip
    exact ⟨_, _, by assumption, by assumption⟩
  · cases hl
theorem vBuiltin_sound {b : Builtin} {ts : Array TypeId} {ty : TypeId} {cs : Array Bool} {args : List Value} (r : vBuiltin P b ts ty cs args K h) :
    OpR P (builtin b ts ty cs args.toArray) K h := by
  cases b <;> first | exact r | exact OpR.value r | skip
  case len =>
    refine OpR.value ?_
    rcases args with _ | ⟨x, _ | ⟨y, l⟩⟩
    · exact r.elim
    · simp only [vBuiltin] at r
      cases hl : lenk P ts with
      | other => simp only [hl] at r; obtain ⟨v, e, k⟩ := r; exact Runs.val v e k
      | str =>
        simp only [hl] at r
        obtain ⟨t, ht, hu⟩ := lenk_str hl
        refine O_sound r fun v hv w _ => ?_
        cases x <;> first | (cases hv; done) | skip
        cases hv
        simp [Builtin.len_, ht, Sem.run_bind, und_run hu, goInt]
      | sl =>
        simp only [hl] at r
        obtain ⟨t, e, ht, hu⟩ := lenk_sl hl
        refine O_sound r fun v hv w _ => ?_
        cases x <;> first | (cases hv; done) | skip
        cases hv
        simp [Builtin.len_, ht, Sem.run_bind, und_run hu, goInt]
    · exact r.elim
  case cap =>
    refine OpR.value ?_
    rcases args with _ | ⟨x, _ | ⟨y, l⟩⟩
    · exact r.elim
    · simp only [vBuiltin] at r
      cases hl : lenk P ts with
      | other => simp only [hl] at r; exact r.elim
      | str => simp only [hl] at r; exact r.elim
      | sl =>
        simp only [hl] at r
        obtain ⟨t, e, ht, hu⟩ := lenk_sl hl
        refine O_sound r fun v hv w _ => ?_
        cases x <;> first | (cases hv; done) | skip
        cases hv
        simp [Builtin.cap_, ht, Sem.run_bind, und_run hu, goInt]
    · exact r.elim
  case max =>
    refine OpR.value ?_
    rcases args with _ | ⟨x, _ | ⟨y, _ | ⟨z, l⟩⟩⟩ <;> first | exact (r : False).elim | skip
    exact O_sound r fun v hv w _ => max_run hv ts ty w
  case min =>
    refine OpR.value ?_
    rcases args with _ | ⟨x, _ | ⟨y, _ | ⟨z, l⟩⟩⟩ <;> first | exact (r : False).elim | skip
    exact O_sound r fun v hv w _ => min_run hv ts ty w
theorem toArray_map (ρ : Operand → Value) (xs : Array Operand) : (xs.toList.map ρ).toArray = xs.map ρ := by
  apply Array.ext'; simp
theorem vCall_sound {c : Call} {ty : TypeId} {ρ : Operand → Value} (hρ : ∀ f, ρ (.func f) = .func (.func f) #[] #[]) (r : vCall P c ty ρ K h) : OpR P (do let d ← resolve ρ c ty; invoke d.target d.args) K h := by
  unfold vCall at r
  cases hc : c.callee with
  | builtin b =>
    simp only [hc] at r
    have e : (do let d ← resolve ρ c ty; invoke d.target d.args) = builtin b c.argTypes ty (c.args.map isConst) (c.args.map ρ) := by
      simp only [resolve, hc, pure_bind, invoke]
      congr 2
    rw [e]
    have := vBuiltin_sound r
    rw [toArray_map] at this
    exact this
  | invoke x name =>
    simp only [hc] at r
    have e : (do let d ← resolve ρ c ty; invoke d.target d.args) = invoke (.fn (.method name) #[]) (#[ρ x] ++ c.args.map ρ) := by
      simp [resolve, hc]
    rw [e]; exact r
  | value x =>
    simp only [hc] at r
    have cv : Cv P (ρ x) (c.args.toList.map ρ) K h → OpR P (do let d ← resolve ρ c ty; invoke d.target d.args) K h := by
      intro r
      generalize hx : ρ x = u at r
      cases u <;> first | exact (r : False).elim | skip
      rename_i fn first cap
      cases fn <;> first | exact (r : False).elim | skip
      rename_i f
      simp only [Cv, toArray_map] at r
      have e : (do let d ← resolve ρ c ty; invoke d.target d.args) = callFunc f (first ++ c.args.map ρ ++ cap) := by
        simp only [resolve, hc, hx, Deferred.ofValue, pure_bind, invoke]
      rw [e]; exact r
    cases x <;> first | exact cv r | skip
    rename_i f
    simp only [Cl, toArray_map] at r
    have e : (do let d ← resolve ρ c ty; invoke d.target d.args) = callFunc f (c.args.map ρ) := by
      simp only [resolve, hc, hρ, Deferred.ofValue, pure_bind, invoke]
      simp
    rw [e]; exact r
theorem vFieldAddr_sound {s : TypeId} {x : Value} {f : Nat} (r : vFieldAddr P s x f K h) : Runs P (Instr.fieldAt s x f) K h := by
  unfold vFieldAddr at r
  cases hf : fok P s f with
  | none => simp only [hf] at r; exact r.elim
  | some q =>
    simp only [hf] at r
    cases hs : szk P q.2 with
    | none => simp only [hs] at r; exact r.elim
    | some n =>
      simp only [hs] at r
      cases n with
      | zero => exact r.elim
      | succ n => exact fieldAddr_sound (off := q.1) (t := q.2) hf hs r
theorem vField_sound {s : TypeId} {x : Value} {f : Nat} (r : vField P s x f K h) : Runs P (Instr.field s x f) K h := by
  unfold vField at r
  cases hf : fok P s f with
  | none => simp only [hf] at r; exact r.elim
  | some q =>
    simp only [hf] at r
    cases hs : ldk P q.2 with
    | none => simp only [hs] at r; exact r.elim
    | some k => simp only [hs] at r; exact field_sound (off := q.1) (t := q.2) hf hs r
theorem makeSlice_sound {t : TypeId} {l c : Value} (r : vMakeSlice P t l c K h) : Runs P (Instr.makeSlice t l c) K h := by
  unfold vMakeSlice at r
  cases hu : P.underlying t with
  | none => simp only [hu] at r; exact r.elim
  | some d =>
  simp only [hu] at r
  cases d <;> first | exact (r : False).elim | skip
  rename_i e
  cases hi : P.info? e with
  | none => simp only [hi] at r; exact r.elim
  | some i =>
  simp only [hi] at r
  cases hz : i.zero with
  | none => simp only [hz] at r; exact r.elim
  | some z =>
  simp only [hz] at r
  cases hs : Nat.beq z.cells.size i.size with
  | false => simp only [hs] at r; exact r.elim
  | true =>
  simp only [hs] at r
  have hs' := Nat.eq_of_beq_eq_true hs
  obtain ⟨q, hq, r⟩ := r
  cases l <;> first | (cases hq; done) | skip
  rename_i kl n
  cases c <;> first | (cases hq; done) | skip
  rename_i kc m
  simp only [lenOk] at hq
  split at hq
  case isFalse => cases hq
  rename_i hc
  cases hq
  obtain ⟨h0, hnm, hby, hlt⟩ := hc
  refine Runs.bind (Runs.underlying hu ?_)
  refine Runs.bind (Runs.pure (Runs.bind (Runs.pure (Runs.bind (Runs.typeInfo hi ?_)))))
  have wn : IntKind.i64.wrap n = n := IntWalk.i64_in n ⟨by omega, by omega⟩
  have wm : IntKind.i64.wrap m = m := IntWalk.i64_in m ⟨by omega, by omega⟩
  dsimp only
  rw [wn, wm]
  have g1 : ¬ ((i.bytes : Int) * m > 2 ^ 48) := by
    have : (2 : Int) ^ 48 = 281474976710656 := by decide
    rw [this]; omega
  have g : ((decide (m < 0) || decide ((i.bytes : Int) * m > 2 ^ 48) || decide (n < 0) || decide (n > m)) = true) ↔ False := by
    simp only [Bool.or_eq_true, decide_eq_true_eq, iff_false]
    rintro (((h | h) | h) | h)
    · omega
    · exact g1 h
    · omega
    · omega
  rw [if_neg (by simpa using g)]
  have room : Runs P (askRoom (m.toNat * i.bytes)) (fun _ => Runs P (do
      let sz ← sizeOf e
      if m.toNat * sz = 0 then do
          let zero ← pure #[]
          let a ← newRow e (Array.map (fun x => zero[x % zero.size]!) (Array.range (m.toNat * sz)))
          pure (Value.slice (some a) n.toNat m.toNat)
        else do
          let zv ← zeroValue e
          let zero ← pure zv.cells
          let a ← newRow e (Array.map (fun x => zero[x % zero.size]!) (Array.range (m.toNat * sz)))
          pure (Value.slice (some a) n.toNat m.toNat)) K) h := by
    have main : Runs P (do
      let sz ← sizeOf e
      if m.toNat * sz = 0 then do
          let zero ← pure #[]
          let a ← newRow e (Array.map (fun x => zero[x % zero.size]!) (Array.range (m.toNat * sz)))
          pure (Value.slice (some a) n.toNat m.toNat)
        else do
          let zv ← zeroValue e
          let zero ← pure zv.cells
          let a ← newRow e (Array.map (fun x => zero[x % zero.size]!) (Array.range (m.toNat * sz)))
          pure (Value.slice (some a) n.toNat m.toNat)) K h := by
      refine Runs.bind (Runs.sizeOf hi ?_)
      have key : ∀ zero : Array Value, (m.toNat * i.size = 0 ∨ zero = z.cells) → (Array.range (m.toNat * i.size)).map (zero[· % zero.size]!) = (rep z.cells.toList m.toNat).toArray := by
        intro zero hzero
        rcases hzero with h0 | h0
        · have : (rep z.cells.toList m.toNat) = [] := by
            apply List.eq_nil_of_length_eq_zero
            rw [rep_length]; simpa [hs'] using h0
          rw [h0, this]; simp
        · subst h0
          rw [hs']
          apply Array.ext'
          rw [Array.toList_map, Array.toList_range]
          exact rep_range z.cells i.size hs' m.toNat
      by_cases hz0 : m.toNat * i.size = 0
      · rw [if_pos hz0, pure_bind, key #[] (.inl hz0)]
        exact Nw_row r (fun a => .slice (some a) n.toNat m.toNat) (fun _ => rfl)
      · rw [if_neg hz0]
        refine Runs.bind (Runs.zeroValue hi hz ?_)
        rw [pure_bind, key z.cells (.inr rfl)]
        exact Nw_row r (fun a => .slice (some a) n.toNat m.toNat) (fun _ => rfl)
    unfold askRoom
    split
    · exact Runs.mark main
    · exact Runs.pure main
  exact Runs.bind room
theorem vcOp_sound {o : Oper} {ρ : Operand → Value} (hρ : ∀ f, ρ (.func f) = .func (.func f) #[] #[]) (r : vcOp P o.op o.type ρ K h) : OpR P (execOp ρ o) K h := by
  obtain ⟨dst, op, ty, pos, after, guard⟩ := o
  cases op <;> first | exact r | exact OpR.value r | exact OpR.unit r | skip
  case move x => exact OpR.value (s := pure (ρ x)) (Runs.pure r)
  case assign x => exact OpR.value (s := pure (ρ x)) (Runs.pure r)
  case pick c a b =>
    obtain ⟨t, ht, q⟩ := VB_cases (r : VB (ρ c) (K (ρ a)) (K (ρ b)) h)
    have e : execOp ρ { dst, op := .pick c a b, type := ty, pos, after, guard } = (do pure (.value (if t then ρ a else ρ b))) := by
      simp only [execOp, ht, asBool, pure_bind]
    rw [e]
    refine OpR.value (s := pure (if t then ρ a else ρ b)) (Runs.pure ?_)
    cases t <;> exact q
  case alloc e =>
    simp only [vcOp] at r
    cases hz : zck P e with
    | none => simp only [hz] at r; exact r.elim
    | some z =>
      simp only [hz] at r
      obtain ⟨i, v, hi, hv, rfl⟩ := zck_some hz
      refine OpR.value (s := Instr.alloc e true (.tuple #[])) (Runs.bind (Runs.zeroValue hi hv ?_))
      exact Nw_var r (fun a => .pointer (some a)) (fun _ => rfl)
  case box e x => exact OpR.value (s := Instr.box e (ρ x)) (Nw_var r (fun a => .pointer (some a)) (fun _ => rfl))
  case build t parts => exact OpR.value (build_sound r)
  case buildSlice t n parts => exact OpR.value (buildSlice_sound r)
  case load t x =>
    simp only [vcOp] at r
    cases hk : ldk P t with
    | none => simp only [hk] at r; exact r.elim
    | some k => simp only [hk] at r; exact OpR.value (Ld_sound hk r)
  case store t x v =>
    simp only [vcOp] at r
    cases hk : szk P t with
    | none => simp only [hk] at r; exact r.elim
    | some k => simp only [hk] at r; exact OpR.unit (St_sound hk r)
  case nilCheck x =>
    obtain ⟨v, hv, q⟩ := (r : O (nilV (ρ x)) K h)
    obtain ⟨rfl, hx⟩ := nilV_run hv
    have e : execOp ρ { dst, op := .nilCheck x, type := ty, pos, after, guard } = pure (.value (ρ x)) := by
      rcases hx with ⟨a, ha⟩ | ⟨f, a, b, ha⟩ <;> simp only [execOp, ha]
    rw [e]
    exact OpR.value (s := pure (ρ x)) (Runs.pure q)
  case binOp op t x y yt => exact OpR.value (vBin_sound r)
  case unOp op t x => exact OpR.value (un_sound r)
  case convert a b x => exact OpR.value (convert_sound r)
  case slice t x lo hi mx => exact OpR.value (slice_sound r)
  case fieldAddr s x f => exact OpR.value (vFieldAddr_sound r)
  case field s x f => exact OpR.value (vField_sound r)
  case indexAddr t x i =>
    simp only [vcOp] at r
    cases he : elk P t with
    | none => simp only [he] at r; exact OpR.value r
    | some n => simp only [he] at r; exact OpR.value (idx_sound he r)
  case index t x i =>
    simp only [vcOp] at r
    cases he : isStr P t with
    | false => simp only [he] at r; exact OpR.value r
    | true => simp only [he] at r; exact OpR.value (sidx_sound he r)
  case extract t i =>
    refine OpR.value (O_sound (r : O (extV i (ρ t)) K h) fun v hv w _ => ?_)
    cases hx : ρ t <;> rw [hx] at hv <;> first | (cases hv; done) | skip
    simp only [extV] at hv
    simp [Instr.extract, hv]
  case makeFunc fn first cap => exact OpR.value (s := Instr.makeFunc fn (first.map ρ) (cap.map ρ)) (Runs.pure r)
  case makeMap t r' =>
    cases r' with
    | some x => exact OpR.value r
    | none =>
      refine OpR.value (s := Instr.makeMap t none) ?_
      refine Runs.bind (Runs.new fun b hb => Runs.pure ?_)
      exact r b hb
  case makeSlice t l c => exact OpR.value (makeSlice_sound r)
  case lookup t m k ok => obtain ⟨v, e, q⟩ := r; exact OpR.value (Runs.val v e q)
  case call c => exact vCall_sound hρ r
end
end Go.Sl
namespace Go.Sl
open Go
def dstOf (ops : Array Oper) (j : Nat) : Option Tmp := (ops[j]?).bind (·.dst)
def vcOps (P : Program) (ops : Array Oper) : List Oper → Env → (Env → Asn) → Asn
  | [], ρ, K => K ρ
  | o :: l, ρ, K =>
    match o.guard with
    | none => vcOp P o.op o.type ρ.eval fun v => vcOps P ops l (ρ.put o.dst (.val v)) K
    | some g =>
      match dstOf ops g.1 with
      | none => no
      | some d =>
        match ρ.slot d with
        | .skip => vcOps P ops l (ρ.put o.dst .skip) K
        | .val v =>
          match g.2 with
          | true => VB v (vcOp P o.op o.type (ρ.put (some d) (.val (.bool true))).eval fun v => vcOps P ops l ((ρ.put (some d) (.val (.bool true))).put o.dst (.val v)) K)
              (vcOps P ops l ((ρ.put (some d) (.val (.bool false))).put o.dst .skip) K)
          | false => VB v (vcOps P ops l ((ρ.put (some d) (.val (.bool true))).put o.dst .skip) K)
              (vcOp P o.op o.type (ρ.put (some d) (.val (.bool false))).eval fun v => vcOps P ops l ((ρ.put (some d) (.val (.bool false))).put o.dst (.val v)) K)
def nth (xs : List Value) (i : Nat) : Value := xs.getD i undef
def liveE (xs : List Value) : Nat → List Nat → List (Nat × Slot)
  | _, [] => []
  | i, t :: r => (t, .val (nth xs i)) :: liveE xs (i + 1) r
def Env.mix (ρ : Env) (live keep : List Nat) (xs : List Value) (j : Nat → Value) : Env := ⟨liveE xs 0 live ++ keep.map fun t => (t, ρ.slot t), j⟩
def Env.out (ρ : Env) (live : List Nat) : List Value := live.map ρ.get
def VJ (f : (List Value → Asn) → Asn) (g : List Value → (Nat → Value) → Asn) : Asn := fun h => ∃ J : List Value → Asn, f J h ∧ ∀ xs j h', J xs h' → g xs j h'
def VL (init : List Value) (body : List Value → (Nat → Value) → (List Value → Asn) → Asn) : Asn := fun h =>
  ∃ I : Nat → List Value → Asn, (∃ n, I n init h) ∧ ∀ n xs j h', I n xs h' → body xs j (fun xs' h'' => ∃ m, m < n ∧ I m xs' h'') h'
def wr : Code → List Nat
  | .region _ ops _ => ops.toList.filterMap (·.dst)
  | .seq a b => wr a ++ wr b
  | .cond _ a b => wr a ++ wr b
  | .block _ a => wr a
  | .loop a => wr a
  | _ => []
def memB (t : Nat) : List Nat → Bool
  | [] => false
  | d :: r => match Nat.beq d t with | true => true | false => memB t r
def apart (keep w : List Nat) : Bool := keep.all fun t => !memB t w
def fits (n : Nat) (c : Code) : Bool := (wr c).all fun t => Nat.blt t n
section
variable {P : Program}
def agree (W : List Nat) (a a' : Act) : Prop := ∀ t, memB t W = false → a'.tmps.getD t undef = a.tmps.getD t undef
def Post (n : Nat) (W : List Nat) (a0 : Act) (hF : FR) (kn : Env → Asn) (ke : Nat → Env → Asn) (kr : Env → Asn) : Exit → Act → World → Prop := fun e a' w' =>
  a'.defers = a0.defers ∧ agree W a0 a' ∧ ∃ ρ' h', Rel n ρ' a' ∧ DjF h' hF ∧ Sat h' w' ∧ SatF hF w' ∧
    (match e with | .normal => kn ρ' h' | .exit i => ke i ρ' h' | .ret => kr ρ' h' | _ => False)
theorem memB_append (t : Nat) (l m : List Nat) : memB t (l ++ m) = (memB t l || memB t m) := by
  induction l with
  | nil => rfl
  | cons d l ih =>
    simp only [List.cons_append, memB]
    cases Nat.beq d t <;> simp [ih]
theorem memB_iff {t : Nat} {l : List Nat} : memB t l = true ↔ t ∈ l := by
  induction l with
  | nil => simp [memB]
  | cons d l ih =>
    simp only [memB, List.mem_cons]
    cases hb : Nat.beq d t with
    | true => have := Nat.eq_of_beq_eq_true hb; simp [this]
    | false =>
      have : t ≠ d := by intro e; subst e; simp at hb
      simp [ih, this]
theorem agree.refl (W : List Nat) (a : Act) : agree W a a := fun _ _ => rfl
theorem agree.trans {W : List Nat} {a b c : Act} (x : agree W a b) (y : agree W b c) : agree W a c := fun t ht => (y t ht).trans (x t ht)
theorem agree.mono {W V : List Nat} {a b : Act} (x : agree W a b) (s : ∀ t, memB t V = false → memB t W = false) : agree V a b := fun t ht => x t (s t ht)
theorem agree.left {W V : List Nat} {a b : Act} (x : agree W a b) : agree (W ++ V) a b := x.mono fun t ht => by rw [memB_append] at ht; simp at ht; exact ht.1
theorem agree.right {W V : List Nat} {a b : Act} (x : agree V a b) : agree (W ++ V) a b := x.mono fun t ht => by rw [memB_append] at ht; simp at ht; exact ht.2
theorem agree.put {W : List Nat} {a b : Act} {d : Option Tmp} {v : Value} (x : agree W a b) (hd : ∀ y, d = some y → memB y W = true) : agree W a (b.put d v) := by
  intro t ht
  cases d with
  | none => exact x t ht
  | some d =>
    have hne : d ≠ t := by intro e; subst e; rw [hd d rfl] at ht; cases ht
    have e : (b.put (some d) v).tmps.getD t undef = b.tmps.getD t undef := by
      simp only [Act.put, Array.getD_eq_getD_getElem?]
      rw [Array.getElem?_setIfInBounds_ne hne]
    exact e.trans (x t ht)
theorem Rel.over {n : Nat} {ρ : Env} {a : Act} (r : Rel n ρ a) {d : Tmp} {v u : Value} (hs : ρ.slot d = .val v) (hv : v = u) : Rel n (ρ.put (some d) (.val u)) a := by
  refine ⟨r.1, fun t => ?_⟩
  rw [Env.get_put]
  by_cases e : d = t
  · subst e; rw [if_pos rfl, r.2 d, Env.get, hs, ← hv]
  · rw [if_neg e]; exact r.2 t
theorem wanted_val {n : Nat} {ρ : Env} {a : Act} (r : Rel n ρ a) {ops : Array Oper} {o : Oper} {g : Nat × Bool} {d : Tmp} (hg : o.guard = some g) (hd : dstOf ops g.1 = some d) {b : Bool}
    (hs : ρ.slot d = .val (.bool b)) : Region.wanted o (yielded ops a.tmps) = (b == g.2) := by
  have h1 : a.tmps.getD d undef = .bool b := by rw [r.2 d, Env.get, hs]; rfl
  have h2 : a.tmps[d]? = some (.bool b) := by
    rw [Array.getD_eq_getD_getElem?] at h1
    cases hx : a.tmps[d]? with
    | none => rw [hx] at h1; simp [undef] at h1
    | some y => rw [hx] at h1; simp at h1; rw [h1]
  have h3 : yielded ops a.tmps g.1 = some b := by
    unfold yielded
    have : (ops[g.1]?).bind (·.dst) = some d := hd
    rw [this]; simp [h2]
  simp only [Region.wanted, hg, h3]
  cases b <;> cases g.2 <;> rfl
theorem wanted_skip {n : Nat} {ρ : Env} {a : Act} (r : Rel n ρ a) {ops : Array Oper} {o : Oper} {g : Nat × Bool} {d : Tmp} (hg : o.guard = some g) (hd : dstOf ops g.1 = some d)
    (hs : ρ.slot d = .skip) : Region.wanted o (yielded ops a.tmps) = false := by
  have h1 : a.tmps.getD d undef = undef := by rw [r.2 d, Env.get, hs]; rfl
  have h3 : yielded ops a.tmps g.1 = none := by
    unfold yielded
    have : (ops[g.1]?).bind (·.dst) = some d := hd
    rw [this]
    rw [Array.getD_eq_getD_getElem?] at h1
    cases hx : a.tmps[d]? with
    | none => simp [hx]
    | some y => rw [hx] at h1; simp [undef] at h1; subst h1; simp [hx]
  simp only [Region.wanted, hg, h3]
  rfl
theorem step_sound {n : Nat} {ops : Array Oper} {o : Oper} {l : List Oper} {ρ : Env} {a : Act} {K : Env → Asn} {Q : Exit → Act → World → Prop} {h : PH} {hF : FR} {w : World}
    (r : Rel n ρ a) (hd : ∀ x, o.dst = some x → x < n) (hw : Region.wanted o (yielded ops a.tmps) = true)
    (v : vcOp P o.op o.type ρ.eval (fun v => vcOps P ops l (ρ.put o.dst (.val v)) K) h) (d : DjF h hF) (s : Sat h w) (f : SatF hF w)
    (ih : ∀ (v : Value) (w' : World) (h' : PH), vcOps P ops l (ρ.put o.dst (.val v)) K h' → DjF h' hF → Sat h' w' → SatF hF w' → Rel n (ρ.put o.dst (.val v)) (a.put o.dst v) → wpList P ops Q l (a.put o.dst v) w') :
    wpList P ops Q (o :: l) a w := by
  unfold wpList
  rw [if_pos hw]
  refine .inl ?_
  unfold Oper.wp
  rw [r.eval]
  have hop := vcOp_sound (P := P) (o := o) (ρ := ρ.eval) (fun _ => rfl) v hF w d s f
  have key : ∀ res : Result Next, UponR P (fun v w' => ∃ h', vcOps P ops l (ρ.put o.dst (.val v)) K h' ∧ DjF h' hF ∧ Sat h' w' ∧ SatF hF w') res → o.upon P a (wpList P ops Q l) Q res := by
    have fin : ∀ (v : Value) (w' : World), (∃ h', vcOps P ops l (ρ.put o.dst (.val v)) K h' ∧ DjF h' hF ∧ Sat h' w' ∧ SatF hF w') → wpList P ops Q l (a.put o.dst v) w' := by
      rintro v w' ⟨h', q, d', s', f'⟩
      exact ih v w' h' q d' s' f' (r.put o.dst hd _ v rfl)
    intro res hres
    rcases res with ⟨nx, w'⟩ | ⟨hh, w'⟩
    · cases nx <;> first | exact (hres : False).elim | skip
      · exact fin _ _ hres
      · exact fin _ _ hres
      · refine Calls.mono hres ?_
        rintro e w'' ⟨v, rfl, q⟩
        exact fin _ _ q
    · exact (hres : False).elim
  exact key _ hop
theorem vcOps_sound {n : Nat} {ops : Array Oper} {K : Env → Asn} {Q : Exit → Act → World → Prop} {hF : FR} {W : List Nat} {a0 : Act} :
    ∀ (l : List Oper) (ρ : Env) (a : Act) (h : PH) (w : World), Rel n ρ a → (∀ o ∈ l, ∀ x, o.dst = some x → x < n ∧ memB x W = true) → vcOps P ops l ρ K h → DjF h hF → Sat h w → SatF hF w →
      a.defers = a0.defers → agree W a0 a →
      (∀ a' ρ' h' w', a'.defers = a0.defers → agree W a0 a' → Rel n ρ' a' → K ρ' h' → DjF h' hF → Sat h' w' → SatF hF w' → Q .normal a' w') → wpList P ops Q l a w := by
  intro l
  induction l with
  | nil => intro ρ a h w r _ v d s f hdf hag q; exact q a ρ h w hdf hag r v d s f
  | cons o l ih =>
    intro ρ a h w r hdst v d s f hdf hag q
    have hd : ∀ x, o.dst = some x → x < n := fun x e => (hdst o (by simp) x e).1
    have hW : ∀ x, o.dst = some x → memB x W = true := fun x e => (hdst o (by simp) x e).2
    have hdf' : ∀ v, (a.put o.dst v).defers = a0.defers := by intro v; cases ho : o.dst <;> simpa [Act.put] using hdf
    have ih' := fun ρ a h w r v d s f e g => ih ρ a h w r (fun o ho => hdst o (by simp [ho])) v d s f e g q
    cases hg : o.guard with
    | none =>
      simp only [vcOps, hg] at v
      exact step_sound r hd (by simp [Region.wanted, hg]) v d s f fun v w' h' q' d' s' f' r' => ih' _ _ h' w' r' q' d' s' f' (hdf' v) (hag.put hW)
    | some g =>
      simp only [vcOps, hg] at v
      cases hds : dstOf ops g.1 with
      | none => simp only [hds] at v; exact v.elim
      | some dd =>
        simp only [hds] at v
        have skip : ∀ ρ, Rel n ρ a → Region.wanted o (yielded ops a.tmps) = false → vcOps P ops l (ρ.put o.dst .skip) K h → wpList P ops Q (o :: l) a w := by
          intro ρ r hw v
          unfold wpList
          rw [if_neg (by rw [hw]; simp)]
          exact ih' _ _ h w (r.put o.dst hd .skip undef rfl) v d s f (hdf' _) (hag.put hW)
        cases hs : ρ.slot dd with
        | skip => simp only [hs] at v; exact skip ρ r (wanted_skip r hg hds hs) v
        | val u =>
          simp only [hs] at v
          cases hg2 : g.2 with
          | true =>
            simp only [hg2] at v
            obtain ⟨b, rfl, v⟩ := VB_cases v
            have hw := wanted_val r hg hds hs
            rw [hg2] at hw
            cases b with
            | true => exact step_sound (r.over hs rfl) hd (by rw [hw]; rfl) v d s f fun v w' h' q' d' s' f' r' => ih' _ _ h' w' r' q' d' s' f' (hdf' v) (hag.put hW)
            | false => exact skip _ (r.over hs rfl) (by rw [hw]; rfl) v
          | false =>
            simp only [hg2] at v
            obtain ⟨b, rfl, v⟩ := VB_cases v
            have hw := wanted_val r hg hds hs
            rw [hg2] at hw
            cases b with
            | true => exact skip _ (r.over hs rfl) (by rw [hw]; rfl) v
            | false => exact step_sound (r.over hs rfl) hd (by rw [hw]; rfl) v d s f fun v w' h' q' d' s' f' r' => ih' _ _ h' w' r' q' d' s' f' (hdf' v) (hag.put hW)
end
end Go.Sl
namespace Go.Sl
open Go
section
variable {P : Program}
def Fr (K : Value → Asn) (p : PH) (v : Value) : Asn := fun h => ∃ h1, K v h1 ∧ Dj h1 p ∧ h = un h1 p
theorem put_un {h p : PH} {b : Nat} {x : Bool × Obj} : put (un h p) b x = un (put h b x) p := by
  funext c
  by_cases e : c = b
  · subst e; simp [put, un]
  · simp [put, un, e]
theorem un_none {h p : PH} {b : Nat} (e : un h p b = none) : h b = none ∧ p b = none := by
  simp only [un] at e
  cases hh : h b with
  | none => rw [hh] at e; exact ⟨rfl, e⟩
  | some x => rw [hh] at e; cases e
theorem O_frame {o : Option Value} {K : Value → Asn} {h p : PH} (r : O o K h) (d : Dj h p) : O o (Fr K p) (un h p) := by
  obtain ⟨v, e, k⟩ := r; exact ⟨v, e, h, k, d, rfl⟩
theorem VB_frame {v a b : Value} {K : Value → Asn} {h p : PH} (r : VB v (K a) (K b) h) (d : Dj h p) : VB v (Fr K p a) (Fr K p b) (un h p) := by
  obtain ⟨t, rfl, q⟩ := VB_cases r
  cases t
  · exact (⟨h, q, d, rfl⟩ : Fr K p b (un h p))
  · exact (⟨h, q, d, rfl⟩ : Fr K p a (un h p))
theorem Ld_frame {k : Option Nat} {x : Value} {K : Value → Asn} {h p : PH} (r : Ld k x K h) (d : Dj h p) : Ld k x (Fr K p) (un h p) := by
  obtain ⟨b, off, t, c, e, fz, v, e1, e2, e3, q⟩ := r
  exact ⟨b, off, t, c, e, fz, v, e1, un_some_left e2, e3, h, q, d, rfl⟩
theorem St_frame {n : Nat} {x v : Value} {K : Value → Asn} {h p : PH} (r : St n x v K h) (d : Dj h p) : St n x v (Fr K p) (un h p) := by
  obtain ⟨b, off, c, e, e1, e2, e3, e4, e5, q⟩ := r
  refine ⟨b, off, c, e, e1, un_some_left e2, e3, e4, e5, _, q, d.put_old e2 rfl, ?_⟩
  rw [put_un]
theorem Nw_frame {t : TypeId} {c : List Value} {f : Nat → Value} {K : Value → Asn} {h p : PH} (r : Nw t c f K h) (d : Dj h p) : Nw t c f (Fr K p) (un h p) := by
  intro b hb
  obtain ⟨h1, h2⟩ := un_none hb
  exact ⟨_, r b h1, d.put_new h2, put_un⟩
theorem BS_frame {t : TypeId} {o : Option (List Value)} {n : Nat} {K : Value → Asn} {h p : PH} (r : BS t o n K h) (d : Dj h p) : BS t o n (Fr K p) (un h p) := by
  obtain ⟨c, e, q⟩ := r; exact ⟨c, e, Nw_frame q d⟩
theorem Runs_frame {s : Sem Value} {K : Value → Asn} {h p : PH} (r : Runs P s K h) (d : Dj h p) : Runs P s (Fr K p) (un h p) :=
  r.frame d fun _ h1 k d1 => ⟨h1, k, d1, rfl⟩
theorem RunsU_frame {s : Sem Unit} {K : Value → Asn} {h p : PH} (r : Runs P s (fun _ => K undef) h) (d : Dj h p) : Runs P s (fun _ => Fr K p undef) (un h p) :=
  r.frame d fun _ h1 k d1 => ⟨h1, k, d1, rfl⟩
theorem OpR_frame {s : Sem Next} {K : Value → Asn} {h p : PH} (r : OpR P s K h) (d : Dj h p) : OpR P s (Fr K p) (un h p) :=
  r.frame d fun _ h1 k d1 => ⟨h1, k, d1, rfl⟩
theorem O_mono {o : Option Value} {K K' : Value → Asn} {h : PH} (r : O o K h) (k : ∀ v h, K v h → K' v h) : O o K' h := by
  obtain ⟨v, e, q⟩ := r; exact ⟨v, e, k _ _ q⟩
theorem VB_mono {v : Value} {x y x' y' : Asn} {h : PH} (r : VB v x y h) (k1 : ∀ h, x h → x' h) (k2 : ∀ h, y h → y' h) : VB v x' y' h := by
  obtain ⟨t, rfl, q⟩ := VB_cases r
  cases t
  · exact k2 _ q
  · exact k1 _ q
theorem Ld_mono {k : Option Nat} {x : Value} {K K' : Value → Asn} {h : PH} (r : Ld k x K h) (kk : ∀ v h, K v h → K' v h) : Ld k x K' h := by
  obtain ⟨b, off, t, c, e, fz, v, e1, e2, e3, q⟩ := r; exact ⟨b, off, t, c, e, fz, v, e1, e2, e3, kk _ _ q⟩
theorem St_mono {n : Nat} {x v : Value} {K K' : Value → Asn} {h : PH} (r : St n x v K h) (kk : ∀ v h, K v h → K' v h) : St n x v K' h := by
  obtain ⟨b, off, c, e, e1, e2, e3, e4, e5, q⟩ := r; exact ⟨b, off, c, e, e1, e2, e3, e4, e5, kk _ _ q⟩
theorem Nw_mono {t : TypeId} {c : List Value} {f : Nat → Value} {K K' : Value → Asn} {h : PH} (r : Nw t c f K h) (kk : ∀ v h, K v h → K' v h) : Nw t c f K' h := fun b hb => kk _ _ (r b hb)
theorem BS_mono {t : TypeId} {o : Option (List Value)} {n : Nat} {K K' : Value → Asn} {h : PH} (r : BS t o n K h) (kk : ∀ v h, K v h → K' v h) : BS t o n K' h := by
  obtain ⟨c, e, q⟩ := r; exact ⟨c, e, Nw_mono q kk⟩
theorem Rd_frame {s : Sem Value} {K : Value → Asn} {h p : PH} (r : Rd P s K h) (d : Dj h p) : Rd P s (Fr K p) (un h p) := by
  obtain ⟨v, e, k⟩ := r
  exact ⟨v, fun w a => e w (a.mono (Le.left h p)), h, k, d, rfl⟩
theorem Rd_mono {s : Sem Value} {K K' : Value → Asn} {h : PH} (r : Rd P s K h) (k : ∀ v h, K v h → K' v h) : Rd P s K' h := by
  obtain ⟨v, e, q⟩ := r; exact ⟨v, e, k _ _ q⟩
theorem NwM_frame {K : Value → Asn} {h p : PH} (r : NwM K h) (d : Dj h p) : NwM (Fr K p) (un h p) := by
  intro b hb
  obtain ⟨h1, h2⟩ := un_none hb
  exact ⟨_, r b h1, d.put_new h2, put_un⟩
theorem MSl_frame {t : TypeId} {z : List Value} {by' : Nat} {l c : Value} {K : Value → Asn} {h p : PH} (r : MSl t z by' l c K h) (d : Dj h p) : MSl t z by' l c (Fr K p) (un h p) := by
  obtain ⟨q, e, r⟩ := r; exact ⟨q, e, Nw_frame r d⟩
theorem MSl_mono {t : TypeId} {z : List Value} {by' : Nat} {l c : Value} {K K' : Value → Asn} {h : PH} (r : MSl t z by' l c K h) (k : ∀ v h, K v h → K' v h) : MSl t z by' l c K' h := by
  obtain ⟨q, e, r⟩ := r; exact ⟨q, e, Nw_mono r k⟩
inductive Form (P : Program) : ((Value → Asn) → Asn) → Prop
  | bad : Form P fun _ => no
  | val (v : Value) : Form P fun K => K v
  | o (o : Option Value) : Form P fun K => O o K
  | vb (v a b : Value) : Form P fun K => VB v (K a) (K b)
  | ld (k : Option Nat) (x : Value) : Form P fun K => Ld k x K
  | st (n : Nat) (x v : Value) : Form P fun K => St n x v K
  | nw (t : TypeId) (c : List Value) (f : Nat → Value) : Form P fun K => Nw t c f K
  | bs (t : TypeId) (o : Option (List Value)) (n : Nat) : Form P fun K => BS t o n K
  | runs (s : Sem Value) : Form P fun K => Runs P s K
  | runsU (s : Sem Unit) : Form P fun K => Runs P s fun _ => K undef
  | op (s : Sem Next) : Form P fun K => OpR P s K
  | rd (s : Sem Value) : Form P fun K => Rd P s K
  | nwM : Form P fun K => NwM K
  | msl (t : TypeId) (z : List Value) (by' : Nat) (l c : Value) : Form P fun K => MSl t z by' l c K
theorem Form.frame {φ : (Value → Asn) → Asn} (f : Form P φ) {K : Value → Asn} {h p : PH} (r : φ K h) (d : Dj h p) : φ (Fr K p) (un h p) := by
  cases f with
  | bad => exact r.elim
  | val v => exact ⟨h, r, d, rfl⟩
  | o => exact O_frame r d
  | vb => exact VB_frame r d
  | ld => exact Ld_frame r d
  | st => exact St_frame r d
  | nw => exact Nw_frame r d
  | bs => exact BS_frame r d
  | runs => exact Runs_frame r d
  | runsU => exact RunsU_frame r d
  | op => exact OpR_frame r d
  | rd => exact Rd_frame r d
  | nwM => exact NwM_frame r d
  | msl => exact MSl_frame r d
theorem Form.mono {φ : (Value → Asn) → Asn} (f : Form P φ) {K K' : Value → Asn} {h : PH} (r : φ K h) (k : ∀ v h, K v h → K' v h) : φ K' h := by
  cases f with
  | bad => exact r.elim
  | val v => exact k _ _ r
  | o => exact O_mono r k
  | vb => exact VB_mono r (k _) (k _)
  | ld => exact Ld_mono r k
  | st => exact St_mono r k
  | nw => exact Nw_mono r k
  | bs => exact BS_mono r k
  | runs => exact Runs.mono r k
  | runsU => exact Runs.mono r fun _ h q => k _ h q
  | op => exact OpR.mono r k
  | rd => exact Rd_mono r k
  | nwM => exact fun b hb => k _ _ (r b hb)
  | msl => exact MSl_mono r k
theorem vBuild_form (t : TypeId) (parts : Array (Nat × Operand)) (ρ : Operand → Value) : Form P fun K => vBuild P t parts ρ K := by
  unfold vBuild
  cases P.underlying t with
  | none => exact .bad
  | some d =>
    cases d <;> first | exact .bad | skip
    · cases zck P t with
      | none => exact .bad
      | some z =>
        rename_i e
        dsimp only
        cases szk P e with
        | none => exact .bad
        | some n => exact .o _
    · cases zck P t with
      | none => exact .bad
      | some z =>
        rename_i fs
        dsimp only
        cases fs.toList.all fun f => (szk P f.type).isSome with
        | false => exact .bad
        | true =>
          dsimp only
          cases placesS P fs ρ parts.toList with
          | none => exact .bad
          | some l => exact .o _
theorem vBuildSlice_form (t : TypeId) (n : Nat) (parts : Array (Nat × Operand)) (ρ : Operand → Value) : Form P fun K => vBuildSlice P t n parts ρ K := by
  unfold vBuildSlice
  cases P.underlying t with
  | none => exact .bad
  | some d =>
    cases d <;> first | exact .bad | skip
    rename_i e
    dsimp only
    cases szk P e with
    | none => exact .bad
    | some k =>
      dsimp only
      cases zck P e with
      | none => exact .bad
      | some z =>
        dsimp only
        cases Nat.beq z.length k && Nat.ble (n * k) 16777216 with
        | false => exact .bad
        | true => exact .bs _ _ _
theorem vConvert_form (a b : TypeId) (x : Value) : Form P fun K => vConvert P a b x K := by
  unfold vConvert
  cases intk P a with
  | none => cases elk P a with
    | none => exact .runs _
    | some _ => exact .rd _
  | some _ => cases intk P b with
    | none => exact .runs _
    | some _ => exact .o _
theorem vSlice_form (t : TypeId) (x : Value) (lo hi mx : Option Value) : Form P fun K => vSlice P t x lo hi mx K := by
  unfold vSlice
  cases elk P t with
  | some _ => exact .o _
  | none => cases isStr P t with
    | false => exact .runs _
    | true => cases mx with
      | none => exact .o _
      | some _ => exact .bad
theorem vUn_form (op : UnOp) (x : Value) : Form P fun K => vUn P op x K := by cases op <;> first | exact .o _ | exact .runs _
theorem vFieldAddr_form (s : TypeId) (x : Value) (f : Nat) : Form P fun K => vFieldAddr P s x f K := by
  unfold vFieldAddr
  cases fok P s f with
  | none => exact .bad
  | some q => dsimp only; cases szk P q.2 with
    | none => exact .bad
    | some n => cases n with
      | zero => exact .bad
      | succ => exact .o _
theorem vField_form (s : TypeId) (x : Value) (f : Nat) : Form P fun K => vField P s x f K := by
  unfold vField
  cases fok P s f with
  | none => exact .bad
  | some q => dsimp only; cases ldk P q.2 with
    | none => exact .bad
    | some n => exact .o _
theorem vBin_form (op : BinOp) (t : TypeId) (x y : Operand) (ρ : Operand → Value) : Form P fun K => vBin P op t x y ρ K := by
  cases op <;> first | exact .o _ | skip
  all_goals
    unfold vBin
    cases eqk P t with
    | num => exact .o _
    | nil => exact .o _
    | other => exact .rd _
theorem vBuiltin_form (b : Builtin) (ts : Array TypeId) (ty : TypeId) (cs : Array Bool) (args : List Value) : Form P fun K => vBuiltin P b ts ty cs args K := by
  cases b <;> first | exact .op _ | exact .runs _ | skip
  all_goals
    rcases args with _ | ⟨x, _ | ⟨y, _ | ⟨z, l⟩⟩⟩ <;> first | exact .bad | exact .o _ | skip
  all_goals
    unfold vBuiltin
    dsimp only
    cases lenk P ts <;> first | exact .bad | exact .o _ | exact .rd _
theorem vCall_form (c : Call) (ty : TypeId) (ρ : Operand → Value) : Form P fun K => vCall P c ty ρ K := by
  unfold vCall
  cases c.callee with
  | builtin b => exact vBuiltin_form _ _ _ _ _
  | invoke x n => exact .op _
  | value x =>
    dsimp only
    have cv : ∀ u, Form P fun K => Cv P u (c.args.toList.map ρ) K := by
      intro u
      cases u <;> first | exact .bad | skip
      rename_i fn _ _
      cases fn <;> first | exact .bad | exact .op _
    cases x <;> first | exact .op _ | exact cv _
theorem vMakeSlice_form (t : TypeId) (l c : Value) : Form P fun K => vMakeSlice P t l c K := by
  unfold vMakeSlice
  cases P.underlying t with
  | none => exact .bad
  | some d =>
    cases d <;> first | exact .bad | skip
    rename_i e
    dsimp only
    cases P.info? e with
    | none => exact .bad
    | some i =>
      dsimp only
      cases i.zero with
      | none => exact .bad
      | some z =>
        dsimp only
        cases Nat.beq z.cells.size i.size with
        | false => exact .bad
        | true => exact .msl _ _ _ _ _
theorem vcOp_form (op : Op) (ty : TypeId) (ρ : Operand → Value) : Form P fun K => vcOp P op ty ρ K := by
  cases op <;> first | exact .op _ | exact .runs _ | exact .runsU _ | exact .o _ | exact .val _ | exact .ld _ _ | exact .rd _ | skip
  case makeMap t r =>
    cases r with
    | none => exact .nwM
    | some _ => exact .runs _
  case makeSlice => exact vMakeSlice_form _ _ _
  case pick => exact .vb _ _ _
  case alloc e =>
    simp only [vcOp]
    cases zck P e with
    | none => exact .bad
    | some z => exact .nw _ _ _
  case box => exact .nw _ _ _
  case build => exact vBuild_form _ _ _
  case buildSlice => exact vBuildSlice_form _ _ _ _
  case load t x =>
    simp only [vcOp]
    cases ldk P t with
    | none => exact .bad
    | some k => exact .ld _ _
  case store t x v =>
    simp only [vcOp]
    cases szk P t with
    | none => exact .bad
    | some k => exact .st _ _ _
  case binOp => exact vBin_form _ _ _ _ _
  case unOp => exact vUn_form _ _
  case convert => exact vConvert_form _ _ _
  case slice => exact vSlice_form _ _ _ _ _
  case fieldAddr => exact vFieldAddr_form _ _ _
  case field => exact vField_form _ _ _
  case indexAddr t x i =>
    simp only [vcOp]
    cases elk P t with
    | none => exact .runs _
    | some n => exact .o _
  case index t x i =>
    simp only [vcOp]
    cases isStr P t with
    | false => exact .runs _
    | true => exact .o _
  case call => exact vCall_form _ _ _
end
end Go.Sl
namespace Go.Sl
open Go
section
variable {P : Program} {ops : Array Oper}
theorem placesS_congr (fs : Array Field) {ρ ρ' : Operand → Value} : ∀ (l : List (Nat × Operand)), (∀ p ∈ l, ρ p.2 = ρ' p.2) → placesS P fs ρ l = placesS P fs ρ' l := by
  intro l
  induction l with
  | nil => intro _; rfl
  | cons p l ih =>
    intro h
    obtain ⟨i, x⟩ := p
    simp only [placesS]
    rw [ih fun p hp => h p (by simp [hp]), h (i, x) (by simp)]
theorem placesE_congr (n : Nat) {ρ ρ' : Operand → Value} : ∀ (l : List (Nat × Operand)), (∀ p ∈ l, ρ p.2 = ρ' p.2) → placesE n ρ l = placesE n ρ' l := by
  intro l
  induction l with
  | nil => intro _; rfl
  | cons p l ih =>
    intro h
    obtain ⟨i, x⟩ := p
    simp only [placesE]
    rw [ih fun p hp => h p (by simp [hp]), h (i, x) (by simp)]
theorem vcOp_congr {ρ ρ' : Operand → Value} (op : Op) (ty : TypeId) (K : Value → Asn) (hs : ∀ cs b, op ≠ .select cs b) (h : ∀ x ∈ op.operands, ρ x = ρ' x) :
    vcOp P op ty ρ K = vcOp P op ty ρ' K := by
  have args : ∀ l : List Operand, (∀ x ∈ l, ρ x = ρ' x) → l.map ρ = l.map ρ' := fun l hl => List.map_congr_left hl
  have arr : ∀ l : Array Operand, (∀ x ∈ l, ρ x = ρ' x) → l.map ρ = l.map ρ' := fun l hl => Array.map_congr_left hl
  cases op <;> simp only [Op.operands] at h
  case select cs b => exact absurd rfl (hs cs b)
  case build t ps =>
    have hp : ∀ p ∈ ps.toList, ρ p.2 = ρ' p.2 := fun p hp => h p.2 (by simp; exact ⟨p.1, by simpa using hp⟩)
    simp only [vcOp, vBuild, placesE_congr _ ps.toList hp]
    cases P.underlying t with
    | none => rfl
    | some d => cases d <;> first | rfl | (simp only [placesS_congr _ ps.toList hp])
  case buildSlice t n ps =>
    have hp : ∀ p ∈ ps.toList, ρ p.2 = ρ' p.2 := fun p hp => h p.2 (by simp; exact ⟨p.1, by simpa using hp⟩)
    simp only [vcOp, vBuildSlice, placesE_congr _ ps.toList hp]
  case makeFunc fn first cap =>
    simp only [vcOp]
    rw [arr first fun x hx => h x (by simp [hx]), arr cap fun x hx => h x (by simp [hx])]
  case call c =>
    simp only [Call.operands] at h
    have ha : c.args.toList.map ρ = c.args.toList.map ρ' := args _ fun x hx => h x (by simp [Array.mem_toList_iff.1 hx])
    have hb : c.args.map ρ = c.args.map ρ' := arr _ fun x hx => h x (by simp [hx])
    simp only [vcOp, vCall, ha, hb]
    cases hc : c.callee with
    | builtin b => rfl
    | invoke x n => dsimp only; rw [h x (by simp [hc])]
    | value x => cases x <;> first | rfl | (dsimp only; rw [h _ (by simp [hc])])
  case makeMap t r => cases r <;> simp_all [vcOp]
  case slice t x lo hi mx => cases lo <;> cases hi <;> cases mx <;> simp_all [vcOp]
  case binOp o t x y yt =>
    have hx := h x (by simp)
    have hy := h y (by simp)
    cases o <;> simp only [vcOp, vBin, hx, hy]
  case unOp o t x => simp only [vcOp, h x (by simp)]
  case go c =>
    refine congrArg (fun s => OpR P s K) (execOp_congr _ (fun _ _ => by simp) ?_)
    simpa [Op.operands] using h
  case defer c =>
    refine congrArg (fun s => OpR P s K) (execOp_congr _ (fun _ _ => by simp) ?_)
    simpa [Op.operands] using h
  all_goals first
    | (simp only [vcOp]; done)
    | (simp_all [vcOp]; done)
    | (refine congrArg (fun s => OpR P s K) (execOp_congr _ (fun _ _ => by simp) ?_); first | (simp [Op.operands]; done) | exact fun x hx => h x (by simpa [Op.operands] using hx))
theorem vcOp_put (o : Oper) (hs : ∀ cs b, o.op ≠ .select cs b) (a : Act) (dst : Option Tmp) (v : Value) (K : Value → Asn) (h : ∀ d, dst = some d → d ∉ o.looksAt ops) :
    vcOp P o.op o.type (a.put dst v).eval K = vcOp P o.op o.type a.eval K :=
  vcOp_congr o.op o.type K hs fun x hx => Act.eval_put fun d hd hxd => h d hd (by
    subst hxd
    exact List.mem_append_left _ (List.mem_filterMap.2 ⟨.tmp d, by simpa using hx, rfl⟩))
def Poss (h : PH) : Prop := ∃ w, Sat h w
theorem Form.out {φ : (Value → Asn) → Asn} (f : Form P φ) {K : Value → Asn} {h : PH} (r : φ K h) (p : Poss h) : ∃ v h', K v h' ∧ Poss h' := by
  have p0 := p
  obtain ⟨w, s⟩ := p
  have nw : ∀ {t : TypeId} {c : List Value} {g : Nat → Value}, Nw t c g K h → ∃ v h', K v h' ∧ Poss h' := fun r => ⟨_, _, r w.heap.size (s.fresh (Nat.le_refl _)), _, s.put_push _ _⟩
  cases f with
  | bad => exact r.elim
  | val v => exact ⟨v, h, r, p0⟩
  | o => obtain ⟨v, _, k⟩ := r; exact ⟨v, h, k, p0⟩
  | vb v a b => obtain ⟨t, _, q⟩ := VB_cases r; cases t; exact ⟨b, h, q, p0⟩; exact ⟨a, h, q, p0⟩
  | ld => obtain ⟨_, _, _, _, _, _, v, _, _, _, q⟩ := r; exact ⟨v, h, q, p0⟩
  | st => obtain ⟨b, _, _, _, _, hb, _, _, _, q⟩ := r; exact ⟨_, _, q, _, s.setBlock hb⟩
  | nw => exact nw r
  | bs => obtain ⟨c, _, q⟩ := r; exact nw q
  | runs =>
    obtain ⟨v, w', h', _, q, _, s', _⟩ := r ⟨emp, w.os, w.output⟩ w (Dj.emp h) s ⟨Sat.emp w, rfl, rfl⟩
    exact ⟨v, h', q, w', s'⟩
  | runsU =>
    obtain ⟨v, w', h', _, q, _, s', _⟩ := r ⟨emp, w.os, w.output⟩ w (Dj.emp h) s ⟨Sat.emp w, rfl, rfl⟩
    exact ⟨_, h', q, w', s'⟩
  | op t =>
    have := r ⟨emp, w.os, w.output⟩ w (Dj.emp h) s ⟨Sat.emp w, rfl, rfl⟩
    generalize t.run P w = res at this
    rcases res with ⟨nx, w'⟩ | ⟨hh, w'⟩
    · cases nx <;> first | exact (this : False).elim | skip
      · obtain ⟨h', q, _, s', _⟩ := this; exact ⟨_, h', q, w', s'⟩
      · obtain ⟨h', q, _, s', _⟩ := this; exact ⟨_, h', q, w', s'⟩
      · obtain ⟨e, w'', fr, ⟨v, _, h', q, _, s', _⟩, _⟩ := this []
        exact ⟨v, h', q, w'', s'⟩
    · exact (this : False).elim
  | rd => obtain ⟨v, _, k⟩ := r; exact ⟨v, h, k, p0⟩
  | nwM => exact ⟨_, _, r w.heap.size (s.fresh (Nat.le_refl _)), _, s.put_push _ _⟩
  | msl => obtain ⟨q, _, r⟩ := r; exact nw r
def CalmF (φ : (Value → Asn) → Asn) : Prop := ∀ K h, φ K h → ∃ v, (∀ h' K', K' v h' → φ K' h') ∧ K v h
def ReadF (φ : (Value → Asn) → Asn) : Prop := ∀ K h, φ K h → ∃ v, (∀ h' K', Le h h' → K' v h' → φ K' h') ∧ K v h
def AllocF (φ : (Value → Asn) → Asn) : Prop :=
  (∃ G : Value → PH → Prop, ∀ K h, φ K h ↔ ∀ v p, G v p → Dj h p → K v (un h p)) ∨ ∀ K h, ¬ φ K h
theorem CalmF.read {φ : (Value → Asn) → Asn} (c : CalmF φ) : ReadF φ := fun K h r => let ⟨v, a, b⟩ := c K h r; ⟨v, fun h' K' _ q => a h' K' q, b⟩
theorem calm_bad : CalmF fun _ => no := fun _ _ r => r.elim
theorem calm_val (v : Value) : CalmF fun K => K v := fun _ _ r => ⟨v, fun _ _ q => q, r⟩
theorem calm_o (o : Option Value) : CalmF fun K => O o K := fun _ _ r => by obtain ⟨v, e, k⟩ := r; exact ⟨v, fun _ _ q => ⟨v, e, q⟩, k⟩
theorem calm_vb (v a b : Value) : CalmF fun K => VB v (K a) (K b) := fun K h r => by
  obtain ⟨t, rfl, q⟩ := VB_cases r
  cases t
  · exact ⟨b, fun _ _ q => q, q⟩
  · exact ⟨a, fun _ _ q => q, q⟩
theorem read_ld (k : Option Nat) (x : Value) : ReadF fun K => Ld k x K := fun K h r => by
  obtain ⟨b, off, t, c, e, fz, v, e1, e2, e3, q⟩ := r
  exact ⟨v, fun h' K' l q => ⟨b, off, t, c, e, fz, v, e1, l b _ e2, e3, q⟩, q⟩
theorem read_rd (s : Sem Value) : ReadF fun K => Rd P s K := fun K h r => by
  obtain ⟨v, e, q⟩ := r
  exact ⟨v, fun h' K' l q => ⟨v, fun w a => e w (a.mono l), q⟩, q⟩
theorem single_dj {h : PH} {b : Nat} {o : Obj} : Dj h (put emp b (true, o)) ↔ h b = none := by
  constructor
  · intro d
    cases hh : h b with
    | none => rfl
    | some x => obtain ⟨e, f⟩ := d b x _ hh (put_same _ _ _); subst e; cases f
  · intro e c x y hx hy
    by_cases hc : c = b
    · subst hc; rw [e] at hx; cases hx
    · rw [put_ne _ _ hc] at hy; cases hy
theorem un_single {h : PH} {b : Nat} {o : Obj} (e : h b = none) : un h (put emp b (true, o)) = put h b (true, o) := by
  funext c
  by_cases hc : c = b
  · subst hc; simp [un, e, put]
  · simp only [un, put, hc, if_false, emp]; cases h c <;> rfl
theorem alloc_nw (e : TypeId) (c : List Value) (f : Nat → Value) : AllocF fun K => Nw e c f K := by
  refine .inl ⟨fun v p => ∃ b, v = f b ∧ p = put emp b (true, .cells c.toArray e (0, 0)), fun K h => ⟨?_, ?_⟩⟩
  · rintro r v p ⟨b, rfl, rfl⟩ d
    have hb := single_dj.1 d
    rw [un_single hb]; exact r b hb
  · intro r b hb
    have := r (f b) _ ⟨b, rfl, rfl⟩ (single_dj.2 hb)
    rwa [un_single hb] at this
theorem alloc_nwM : AllocF fun K => NwM K := by
  refine .inl ⟨fun v p => ∃ b, v = .map (some b) ∧ p = put emp b (true, .map #[] 0), fun K h => ⟨?_, ?_⟩⟩
  · rintro r v p ⟨b, rfl, rfl⟩ d
    have hb := single_dj.1 d
    rw [un_single hb]; exact r b hb
  · intro r b hb
    have := r (.map (some b)) _ ⟨b, rfl, rfl⟩ (single_dj.2 hb)
    rwa [un_single hb] at this
theorem alloc_bs (t : TypeId) (o : Option (List Value)) (n : Nat) : AllocF fun K => BS t o n K := by
  cases o with
  | none => exact .inr fun K h r => by obtain ⟨c, e, _⟩ := r; cases e
  | some c =>
    have e : (fun K => BS t (some c) n K) = fun K => Nw t c (fun b => .slice (some ⟨b, 0, none⟩) n n) K := by
      funext K h; exact propext ⟨fun ⟨c', e, r⟩ => by cases e; exact r, fun r => ⟨c, rfl, r⟩⟩
    rw [e]; exact alloc_nw _ _ _
theorem alloc_msl (t : TypeId) (z : List Value) (by' : Nat) (l c : Value) : AllocF fun K => MSl t z by' l c K := by
  cases hq : lenOk by' l c with
  | none => exact .inr fun K h r => by obtain ⟨q, e, _⟩ := r; rw [hq] at e; cases e
  | some q =>
    have e : (fun K => MSl t z by' l c K) = fun K => Nw t (rep z q.2) (fun b => .slice (some ⟨b, 0, none⟩) q.1 q.2) K := by
      funext K h; exact propext ⟨fun ⟨c', e, r⟩ => by rw [hq] at e; cases e; exact r, fun r => ⟨q, hq, r⟩⟩
    rw [e]; exact alloc_nw _ _ _
theorem alloc_bad : AllocF fun _ => no := .inr fun _ _ r => r
def GrowF (φ : (Value → Asn) → Asn) : Prop := ∀ K h, φ K h → φ (fun v h' => K v h' ∧ Le h h') h
theorem le_put {h : PH} {b : Nat} {x : Bool × Obj} (e : h b = none) : Le h (put h b x) := fun c y hc => by
  by_cases hb : c = b
  · subst hb; rw [e] at hc; cases hc
  · rw [put_ne _ _ hb]; exact hc
theorem ReadF.grow {φ : (Value → Asn) → Asn} (r : ReadF φ) : GrowF φ := fun K h q => by
  obtain ⟨v, e, k⟩ := r K h q
  exact e h _ (Le.refl h) ⟨k, Le.refl h⟩
theorem AllocF.grow {φ : (Value → Asn) → Asn} (r : AllocF φ) : GrowF φ := fun K h q => by
  rcases r with ⟨G, e⟩ | e
  · refine (e _ h).2 fun v p g d => ⟨(e K h).1 q v p g d, Le.left h p⟩
  · exact (e K h q).elim
theorem alloc_val : AllocF fun K => K undef := .inl ⟨fun v p => v = undef ∧ p = emp, fun K h => ⟨fun r v p ⟨e1, e2⟩ _ => by rw [e1, e2, un_emp]; exact r, fun r => by
  have := r undef emp ⟨rfl, rfl⟩ (Dj.emp h); rwa [un_emp] at this⟩⟩
inductive Kd where | calm | read | alloc | eff
def kd (P : Program) (op : Op) : Kd :=
  match op with
  | .move _ => .calm
  | .assign _ => .calm
  | .pick _ _ _ => .calm
  | .nilCheck _ => .calm
  | .fieldAddr _ _ _ => .calm
  | .field _ _ _ => .calm
  | .extract _ _ => .calm
  | .makeFunc _ _ _ => .calm
  | .build _ _ => .calm
  | .unOp op _ _ => (match op with | .not => .calm | .neg => .calm | _ => .eff)
  | .binOp op t _ _ _ => (match op with
    | .eql => (match eqk P t with | .other => .read | _ => .calm)
    | .neq => (match eqk P t with | .other => .read | _ => .calm)
    | _ => .calm)
  | .convert a b _ => (match intk P a with
    | some _ => (match intk P b with | some _ => .calm | none => .eff)
    | none => (match elk P a with | some _ => .read | none => .eff))
  | .slice t _ _ _ _ => (match elk P t with
    | some _ => .calm
    | none => (match isStr P t with | true => .calm | false => .eff))
  | .indexAddr t _ _ => (match elk P t with | some _ => .calm | none => .eff)
  | .index t _ _ => (match isStr P t with | true => .calm | false => .eff)
  | .load _ _ => .read
  | .lookup _ _ _ _ => .read
  | .alloc _ => .alloc
  | .box _ _ => .alloc
  | .buildSlice _ _ _ => .alloc
  | .makeSlice _ _ _ => .alloc
  | .makeMap _ r => (match r with | none => .alloc | some _ => .eff)
  | .call c => (match c.callee with
    | .builtin b => (match b with
      | .len => (match lenk P c.argTypes with | .other => .read | _ => .calm)
      | .cap => .calm
      | .max => .calm
      | .min => .calm
      | _ => .eff)
    | _ => .eff)
  | _ => .eff
theorem vBuild_calm (t : TypeId) (parts : Array (Nat × Operand)) (ρ : Operand → Value) : CalmF fun K => vBuild P t parts ρ K := by
  unfold vBuild
  cases P.underlying t with
  | none => exact calm_bad
  | some d =>
    cases d <;> first | exact calm_bad | skip
    · cases zck P t with
      | none => exact calm_bad
      | some z =>
        rename_i e
        dsimp only
        cases szk P e with
        | none => exact calm_bad
        | some n => exact calm_o _
    · cases zck P t with
      | none => exact calm_bad
      | some z =>
        rename_i fs
        dsimp only
        cases fs.toList.all fun f => (szk P f.type).isSome with
        | false => exact calm_bad
        | true =>
          dsimp only
          cases placesS P fs ρ parts.toList with
          | none => exact calm_bad
          | some l => exact calm_o _
theorem vFieldAddr_calm (s : TypeId) (x : Value) (f : Nat) : CalmF fun K => vFieldAddr P s x f K := by
  unfold vFieldAddr
  cases fok P s f with
  | none => exact calm_bad
  | some q => dsimp only; cases szk P q.2 with
    | none => exact calm_bad
    | some n => cases n with
      | zero => exact calm_bad
      | succ => exact calm_o _
theorem vField_calm (s : TypeId) (x : Value) (f : Nat) : CalmF fun K => vField P s x f K := by
  unfold vField
  cases fok P s f with
  | none => exact calm_bad
  | some q => dsimp only; cases ldk P q.2 with
    | none => exact calm_bad
    | some n => exact calm_o _
theorem vBuiltin_calm {b : Builtin} (hb : b = .cap ∨ b = .max ∨ b = .min) (ts : Array TypeId) (ty : TypeId) (cs : Array Bool) (args : List Value) : CalmF fun K => vBuiltin P b ts ty cs args K := by
  rcases hb with rfl | rfl | rfl
  all_goals
    rcases args with _ | ⟨x, _ | ⟨y, _ | ⟨z, l⟩⟩⟩ <;> first | exact calm_bad | exact calm_o _ | skip
  unfold vBuiltin
  dsimp only
  cases lenk P ts <;> first | exact calm_bad | exact calm_o _
theorem vLen_calm {ts : Array TypeId} (hl : lenk P ts ≠ .other) (ty : TypeId) (cs : Array Bool) (args : List Value) : CalmF fun K => vBuiltin P .len ts ty cs args K := by
  rcases args with _ | ⟨x, _ | ⟨y, l⟩⟩ <;> first | exact calm_bad | skip
  unfold vBuiltin
  dsimp only
  cases he : lenk P ts <;> first | exact calm_o _ | exact (hl he).elim
theorem vLen_read (ts : Array TypeId) (ty : TypeId) (cs : Array Bool) (args : List Value) : ReadF fun K => vBuiltin P .len ts ty cs args K := by
  rcases args with _ | ⟨x, _ | ⟨y, l⟩⟩ <;> first | exact calm_bad.read | skip
  unfold vBuiltin
  dsimp only
  cases lenk P ts <;> first | exact (calm_o _).read | exact read_rd _
theorem kd_calm {op : Op} (hk : kd P op = .calm) (ty : TypeId) (ρ : Operand → Value) : CalmF fun K => vcOp P op ty ρ K := by
  cases op <;> first | exact calm_o _ | exact calm_val _ | (cases hk; done) | skip
  case pick => exact calm_vb _ _ _
  case build => exact vBuild_calm _ _ _
  case fieldAddr => exact vFieldAddr_calm _ _ _
  case field => exact vField_calm _ _ _
  case unOp op t x => cases op <;> first | exact calm_o _ | (cases hk; done)
  case binOp op t x y yt =>
    cases op <;> first | exact calm_o _ | skip
    all_goals
      simp only [kd] at hk
      simp only [vcOp, vBin]
      cases he : eqk P t <;> simp only [he] at hk ⊢ <;> first | exact calm_o _ | (cases hk; done)
  case convert a b x =>
    simp only [kd] at hk
    simp only [vcOp, vConvert]
    cases h1 : intk P a <;> simp only [h1] at hk ⊢
    · cases h2 : elk P a <;> simp only [h2] at hk <;> cases hk
    · cases h2 : intk P b <;> simp only [h2] at hk ⊢ <;> first | exact calm_o _ | (cases hk; done)
  case slice t x lo hi mx =>
    simp only [kd] at hk
    simp only [vcOp, vSlice]
    cases h1 : elk P t <;> simp only [h1] at hk ⊢
    · cases h2 : isStr P t <;> simp only [h2] at hk ⊢
      · cases hk
      · cases mx.map ρ <;> first | exact calm_o _ | exact calm_bad
    · exact calm_o _
  case indexAddr t x i =>
    simp only [kd] at hk
    simp only [vcOp]
    cases h1 : elk P t <;> simp only [h1] at hk ⊢ <;> first | exact calm_o _ | (cases hk; done)
  case index t x i =>
    simp only [kd] at hk
    simp only [vcOp]
    cases h1 : isStr P t <;> simp only [h1] at hk ⊢ <;> first | exact calm_o _ | (cases hk; done)
  case makeMap t r => cases r <;> cases hk
  case call c =>
    simp only [kd] at hk
    simp only [vcOp, vCall]
    cases hc : c.callee <;> simp only [hc] at hk ⊢ <;> first | (cases hk; done) | skip
    rename_i b
    have hl : b = .len → lenk P c.argTypes ≠ .other := fun e e' => by subst e; simp [e'] at hk
    cases b <;> first | (cases hk; done) | exact vBuiltin_calm (.inl rfl) _ _ _ _ | exact vBuiltin_calm (.inr (.inl rfl)) _ _ _ _ | exact vBuiltin_calm (.inr (.inr rfl)) _ _ _ _ | exact vLen_calm (hl rfl) _ _ _
theorem kd_read {op : Op} (hk : kd P op = .read) (ty : TypeId) (ρ : Operand → Value) : ReadF fun K => vcOp P op ty ρ K := by
  cases op <;> first | exact read_rd _ | (cases hk; done) | skip
  case unOp op t x => cases op <;> cases hk
  case binOp op t x y yt =>
    cases op <;> first | (cases hk; done) | skip
    all_goals
      simp only [kd] at hk
      simp only [vcOp, vBin]
      cases he : eqk P t <;> simp only [he] at hk ⊢ <;> first | exact read_rd _ | (cases hk; done)
  case convert a b x =>
    simp only [kd] at hk
    simp only [vcOp, vConvert]
    cases h1 : intk P a <;> simp only [h1] at hk ⊢
    · cases h2 : elk P a <;> simp only [h2] at hk ⊢ <;> first | exact read_rd _ | (cases hk; done)
    · cases h2 : intk P b <;> simp only [h2] at hk <;> cases hk
  case slice t x lo hi mx =>
    simp only [kd] at hk
    cases h1 : elk P t <;> simp only [h1] at hk
    · cases h2 : isStr P t <;> simp only [h2] at hk <;> cases hk
    · cases hk
  case indexAddr t x i => simp only [kd] at hk; cases h1 : elk P t <;> simp only [h1] at hk <;> cases hk
  case index t x i => simp only [kd] at hk; cases h1 : isStr P t <;> simp only [h1] at hk <;> cases hk
  case makeMap t r => cases r <;> cases hk
  case load t x =>
    simp only [vcOp]
    cases ldk P t <;> first | exact calm_bad.read | exact read_ld _ _
  case call c =>
    simp only [kd] at hk
    simp only [vcOp, vCall]
    cases hc : c.callee <;> simp only [hc] at hk ⊢ <;> first | (cases hk; done) | skip
    rename_i b
    cases b <;> first | (cases hk; done) | exact vLen_read _ _ _ _
theorem kd_alloc {op : Op} (hk : kd P op = .alloc) (ty : TypeId) (ρ : Operand → Value) : AllocF fun K => vcOp P op ty ρ K := by
  cases op <;> first | (cases hk; done) | skip
  case unOp op t x => cases op <;> cases hk
  case binOp op t x y yt =>
    cases op <;> first | (cases hk; done) | skip
    all_goals
      simp only [kd] at hk
      cases he : eqk P t <;> simp only [he] at hk <;> cases hk
  case convert a b x =>
    simp only [kd] at hk
    cases h1 : intk P a <;> simp only [h1] at hk
    · cases h2 : elk P a <;> simp only [h2] at hk <;> cases hk
    · cases h2 : intk P b <;> simp only [h2] at hk <;> cases hk
  case slice t x lo hi mx =>
    simp only [kd] at hk
    cases h1 : elk P t <;> simp only [h1] at hk
    · cases h2 : isStr P t <;> simp only [h2] at hk <;> cases hk
    · cases hk
  case indexAddr t x i => simp only [kd] at hk; cases h1 : elk P t <;> simp only [h1] at hk <;> cases hk
  case index t x i => simp only [kd] at hk; cases h1 : isStr P t <;> simp only [h1] at hk <;> cases hk
  case makeMap t r => cases r <;> first | exact alloc_nwM | (cases hk; done)
  case alloc e =>
    simp only [vcOp]
    cases zck P e <;> first | exact alloc_bad | exact alloc_nw _ _ _
  case box => exact alloc_nw _ _ _
  case buildSlice t n parts =>
    simp only [vcOp, vBuildSlice]
    cases P.underlying t with
    | none => exact alloc_bad
    | some d =>
      cases d <;> first | exact alloc_bad | skip
      rename_i e
      dsimp only
      cases szk P e with
      | none => exact alloc_bad
      | some k =>
        dsimp only
        cases zck P e with
        | none => exact alloc_bad
        | some z =>
          dsimp only
          cases Nat.beq z.length k && Nat.ble (n * k) 16777216 with
          | false => exact alloc_bad
          | true => exact alloc_bs _ _ _
  case makeSlice t l c =>
    simp only [vcOp, vMakeSlice]
    cases P.underlying t with
    | none => exact alloc_bad
    | some d =>
      cases d <;> first | exact alloc_bad | skip
      rename_i e
      dsimp only
      cases P.info? e with
      | none => exact alloc_bad
      | some i =>
        dsimp only
        cases i.zero with
        | none => exact alloc_bad
        | some z =>
          dsimp only
          cases Nat.beq z.cells.size i.size with
          | false => exact alloc_bad
          | true => exact alloc_msl _ _ _ _ _
  case call c =>
    simp only [kd] at hk
    cases hc : c.callee <;> simp only [hc] at hk <;> first | (cases hk; done) | skip
    rename_i b
    cases b <;> first | (cases hk; done) | (cases he : lenk P c.argTypes <;> simp [he] at hk)
end
end Go.Sl
namespace Go.Sl
open Go
section
variable {P : Program} {ops : Array Oper}
def og (ops : Array Oper) (i : Nat) : Oper := ops.getD i default
def aF (P : Program) (ops : Array Oper) (o : Oper) (a : Act) : (Value → Asn) → Asn :=
  match Region.wanted o (yielded ops a.tmps) with
  | true => fun K => vcOp P o.op o.type a.eval K
  | false => fun K => K undef
def chk (P : Program) (ops : Array Oper) (o : Oper) (a : Act) : Asn := fun h => ∀ d, o.dst = some d → aF P ops o a (fun v _ => v = a.tmps.getD d undef) h
abbrev Item := Nat × List Nat
def rI (P : Program) (ops : Array Oper) (K : Act → Asn) : List Item → Act → Asn
  | [], a => K a
  | x :: r, a => aF P ops (og ops x.1) a fun v h => Poss h →
      (∀ j ∈ x.2, j ∉ r.map (·.1) → chk P ops (og ops j) (a.put (og ops x.1).dst v) h) ∧ rI P ops K r (a.put (og ops x.1).dst v) h
theorem aF_form (o : Oper) (a : Act) : Form P (aF P ops o a) := by
  unfold aF
  cases Region.wanted o (yielded ops a.tmps) with
  | true => exact vcOp_form _ _ _
  | false => exact .val _
theorem aF_put {o : Oper} (hsel : ∀ cs b, o.op ≠ .select cs b) (a : Act) (dst : Option Tmp) (v : Value) (h : ∀ d, dst = some d → d ∉ o.looksAt ops) : aF P ops o (a.put dst v) = aF P ops o a := by
  funext K
  unfold aF
  rw [wanted_put o a dst v h]
  cases Region.wanted o (yielded ops a.tmps) with
  | true => exact vcOp_put o hsel a dst v K h
  | false => rfl
theorem aF_calm {o : Oper} (hk : kd P o.op = .calm) (a : Act) : CalmF (aF P ops o a) := by
  unfold aF
  cases Region.wanted o (yielded ops a.tmps) with
  | true => exact kd_calm hk _ _
  | false => exact calm_val _
theorem aF_read {o : Oper} (hk : kd P o.op = .read) (a : Act) : ReadF (aF P ops o a) := by
  unfold aF
  cases Region.wanted o (yielded ops a.tmps) with
  | true => exact kd_read hk _ _
  | false => exact (calm_val _).read
theorem aF_alloc {o : Oper} (hk : kd P o.op = .alloc) (a : Act) : AllocF (aF P ops o a) := by
  unfold aF
  cases Region.wanted o (yielded ops a.tmps) with
  | true => exact kd_alloc hk _ _
  | false => exact alloc_val
theorem aF_grow {o : Oper} (hk : kd P o.op ≠ .eff) (a : Act) : GrowF (aF P ops o a) := by
  cases h : kd P o.op with
  | calm => exact (aF_calm h a).read.grow
  | read => exact (aF_read h a).grow
  | alloc => exact (aF_alloc h a).grow
  | eff => exact (hk h).elim
theorem put_getD {a : Act} {dst : Option Tmp} {v : Value} {d : Tmp} (h : dst ≠ some d) : (a.put dst v).tmps.getD d undef = a.tmps.getD d undef := by
  cases dst with
  | none => rfl
  | some e =>
    have hne : e ≠ d := fun q => h (by rw [q])
    simp only [Act.put, Array.getD_eq_getD_getElem?]
    rw [Array.getElem?_setIfInBounds_ne hne]
theorem chk_put {o : Oper} (hsel : ∀ cs b, o.op ≠ .select cs b) {a : Act} {dst : Option Tmp} {v : Value} {h : PH} (h1 : ∀ d, dst = some d → d ∉ o.looksAt ops) (h2 : ∀ d, dst = some d → o.dst ≠ some d) :
    chk P ops o (a.put dst v) h ↔ chk P ops o a h := by
  unfold chk
  rw [aF_put hsel a dst v h1]
  constructor
  · intro c d hd
    have := c d hd
    rwa [put_getD (fun e => h2 d e hd)] at this
  · intro c d hd
    rw [put_getD (fun e => h2 d e hd)]
    exact c d hd
theorem chk_mono {o : Oper} (hk : kd P o.op = .read) {a : Act} {h h' : PH} (c : chk P ops o a h) (l : Le h h') : chk P ops o a h' := by
  intro d hd
  obtain ⟨v, f, e⟩ := aF_read hk a _ _ (c d hd)
  exact f h' _ l e
theorem put_back {a : Act} {d : Tmp} {v : Value} : a.put (some d) ((a.put (some d) v).tmps.getD d undef) = a.put (some d) v := by
  simp only [Act.put, Array.getD_eq_getD_getElem?]
  by_cases h : d < a.tmps.size
  · simp [h]
  · simp [Array.setIfInBounds_eq_of_size_le, Nat.le_of_not_lt h]
def ap1 (ops : Array Oper) (x y : Oper) : Bool := match x.dst with | some d => !(y.looksAt ops).contains d && y.dst != some d | none => true
theorem ap1_spec {x y : Oper} (h : ap1 ops x y = true) : (∀ d, x.dst = some d → d ∉ y.looksAt ops) ∧ (∀ d, x.dst = some d → y.dst ≠ some d) := by
  refine ⟨fun d hd => ?_, fun d hd => ?_⟩ <;> simp [ap1, hd] at h
  · exact h.1
  · exact h.2
structure Swap (P : Program) (ops : Array Oper) (x i : Item) (r : List Nat) : Prop where
  ap : (og ops x.1).apart ops (og ops i.1) = true
  how : (kd P (og ops x.1).op = .calm ∧ x.2 = []) ∨ (kd P (og ops x.1).op = .read ∧ x.2 = [] ∧ kd P (og ops i.1).op ≠ .eff ∧ i.2 = []) ∨
    (kd P (og ops x.1).op = .read ∧ x.2 = [] ∧ x.1 ∈ i.2 ∧ ∃ d, (og ops x.1).dst = some d ∧ d ∉ (og ops x.1).looksAt ops) ∨ (kd P (og ops i.1).op = .alloc ∧ i.2 = [] ∧ ∀ j ∈ x.2, ap1 ops (og ops i.1) (og ops j) = true)
  rd : (∀ j ∈ x.2, kd P (og ops j).op = .read) ∧ ∀ j ∈ i.2, kd P (og ops j).op = .read
  ck : ∀ j ∈ i.2, j = x.1 ∨ j ∈ r ∨ ap1 ops (og ops x.1) (og ops j) = true
  nx : x.1 ∉ r
theorem put_comm {o o' : Oper} (ap : o.apart ops o' = true) (a : Act) (v u : Value) : (a.put o.dst v).put o'.dst u = (a.put o'.dst u).put o.dst v :=
  Act.put_comm a v u (Oper.apart_spec ap).2.1
theorem apart_symm {o o' : Oper} (ap : o.apart ops o' = true) : o'.apart ops o = true := by
  obtain ⟨h1, h2, h3⟩ := Oper.apart_spec ap
  unfold Oper.apart
  simp only [Bool.and_eq_true]
  constructor
  · cases hd : o'.dst with
    | none => rfl
    | some d =>
      simp only [Bool.and_eq_true, Bool.not_eq_true', bne_iff_ne, ne_eq]
      refine ⟨by simpa using h3 d hd, fun e => h2 d e hd⟩
  · cases hd : o.dst with
    | none => rfl
    | some d => simpa using h1 d hd
theorem swap {K : Act → Asn} (hsel : ∀ j cs b, (og ops j).op ≠ .select cs b) {x i : Item} {r : List Item} (s : Swap P ops x i (r.map (·.1))) (hxi : x.1 ∉ r.map (·.1))
    {a : Act} {h : PH} (p : Poss h) (q : rI P ops K (x :: i :: r) a h) : rI P ops K (i :: x :: r) a h := by
  obtain ⟨a1, a2, a3⟩ := Oper.apart_spec s.ap
  have comm := put_comm s.ap
  have fi : ∀ v, aF P ops (og ops i.1) (a.put (og ops x.1).dst v) = aF P ops (og ops i.1) a := fun v => aF_put (hsel _) a _ v a1
  have fx : ∀ u, aF P ops (og ops x.1) (a.put (og ops i.1).dst u) = aF P ops (og ops x.1) a := fun u => aF_put (hsel _) a _ u a3
  -- the checks of i, without x
  have cks : ∀ v u h2, (∀ j ∈ i.2, j ∉ r.map (·.1) → chk P ops (og ops j) ((a.put (og ops x.1).dst v).put (og ops i.1).dst u) h2) →
      ∀ j ∈ i.2, j ∉ (x :: r).map (·.1) → chk P ops (og ops j) (a.put (og ops i.1).dst u) h2 := by
    intro v u h2 c j hj hn
    simp only [List.map_cons, List.mem_cons, not_or] at hn
    have := c j hj hn.2
    rw [comm] at this
    have ap : ap1 ops (og ops x.1) (og ops j) = true := by
      rcases s.ck j hj with e | e | e
      · exact (hn.1 e).elim
      · exact (hn.2 e).elim
      · exact e
    obtain ⟨b1, b2⟩ := ap1_spec ap
    exact (chk_put (hsel j) b1 b2).1 this
  simp only [rI] at q ⊢
  rcases s.how with ⟨kx, ex⟩ | ⟨kx, ex, ki, ei⟩ | ⟨kx, ex, hx, d, hd, hdl⟩ | ⟨ki, ei, cx⟩
  · obtain ⟨v, f, g⟩ := aF_calm kx a _ _ q
    have g := (g p).2
    rw [fi] at g
    refine (aF_form _ _).mono g fun u h2 w p2 => ?_
    obtain ⟨w1, w2⟩ := w p2
    refine ⟨cks v u h2 w1, ?_⟩
    rw [fx]
    refine f h2 _ fun _ => ⟨by simp [ex], ?_⟩
    rw [← comm]; exact w2
  · obtain ⟨v, f, g⟩ := aF_read kx a _ _ q
    have g := (g p).2
    rw [fi] at g
    refine (aF_form _ _).mono (aF_grow ki a _ _ g) fun u h2 w p2 => ?_
    obtain ⟨w, le⟩ := w
    obtain ⟨w1, w2⟩ := w p2
    refine ⟨cks v u h2 w1, ?_⟩
    rw [fx]
    refine f h2 _ le fun _ => ⟨by simp [ex], ?_⟩
    rw [← comm]; exact w2
  · obtain ⟨v, _, g⟩ := aF_read kx a _ _ q
    have g := (g p).2
    rw [fi] at g
    refine (aF_form _ _).mono g fun u h2 w p2 => ?_
    obtain ⟨w1, w2⟩ := w p2
    refine ⟨cks v u h2 w1, ?_⟩
    rw [fx]
    have c := w1 x.1 hx hxi d hd
    rw [comm, hd, aF_put (hsel _) _ _ _ (fun d' e => by cases e; exact hdl), fx] at c
    obtain ⟨v', f', e'⟩ := aF_read kx a _ _ c
    refine f' h2 _ (Le.refl _) fun _ => ⟨by simp [ex], ?_⟩
    rw [comm, hd] at w2
    rw [hd, e', put_back]
    exact w2
  · have hA := aF_alloc (ops := ops) ki a
    rcases hA with ⟨G, hG⟩ | bad
    · refine (hG _ _).2 fun u pp g d => fun p1 => ⟨by simp [ei], ?_⟩
      rw [fx]
      refine (aF_form _ _).mono ((aF_form _ _).frame q d) fun v h3 w p3 => ?_
      obtain ⟨h1, k1, d1, rfl⟩ := w
      have p1' : Poss h1 := by obtain ⟨w, sw⟩ := p3; exact ⟨w, sw.mono (Le.left _ _)⟩
      obtain ⟨k2, k3⟩ := k1 p1'
      rw [fi] at k3
      have k4 := ((hG _ _).1 k3 u pp g d1 p3).2
      refine ⟨fun j hj hn => ?_, by rw [← comm]; exact k4⟩
      have ap := cx j hj
      obtain ⟨b1, b2⟩ := ap1_spec ap
      rw [← comm]
      refine (chk_put (hsel j) b1 b2).2 (chk_mono (s.rd.1 j hj) (k2 j hj ?_) (Le.left _ _))
      simp only [List.map_cons, List.mem_cons, not_or]
      refine ⟨fun e => ?_, hn⟩
      subst e
      have := s.rd.1 _ hj
      rw [ki] at this
      cases this
    · obtain ⟨v, h1, k, p1⟩ := (aF_form _ _).out q p
      obtain ⟨_, k3⟩ := k p1
      rw [fi] at k3
      exact (bad _ _ k3).elim
end
end Go.Sl
namespace Go.Sl
open Go
section
variable {P : Program} {ops : Array Oper}
inductive Bef (ops : Array Oper) : Nat → Nat → Prop
  | one {x i : Nat} {e : Edge} (he : e ∈ (og ops i).after) (hb : Region.binds .any e = true) (hx : e.on = x) : Bef ops x i
  | step {x i : Nat} {e : Edge} (he : e ∈ (og ops i).after) (hb : Region.binds .any e = true) (r : Bef ops x e.on) : Bef ops x i
def maskOf (ops : Array Oper) (ms : List Nat) (i : Nat) : Nat :=
  (og ops i).after.toList.foldl (fun m e => match Region.binds .any e with | true => Nat.lor m (Nat.lor (2 ^ e.on) (ms.getD e.on 0)) | false => m) 0
def befB (ms : List Nat) (x i : Nat) : Bool := Nat.testBit (ms.getD i 0) x
def okMasks (ops : Array Oper) (ms : List Nat) : Nat → Bool
  | 0 => true
  | n + 1 => Nat.beq (ms.getD n 0) (maskOf ops ms n) && ((og ops n).after.toList.all fun e => !Region.binds .any e || Nat.blt e.on n) && okMasks ops ms n
theorem okMasks_spec {ms : List Nat} : ∀ (n : Nat), okMasks ops ms n = true → ∀ i, i < n → ms.getD i 0 = maskOf ops ms i ∧ ∀ e ∈ (og ops i).after, Region.binds .any e = true → e.on < i := by
  intro n
  induction n with
  | zero => intro _ i hi; omega
  | succ n ih =>
    intro h i hi
    simp only [okMasks, Bool.and_eq_true] at h
    by_cases e : i = n
    · subst e
      refine ⟨Nat.eq_of_beq_eq_true h.1.1, fun e he hb => ?_⟩
      have := List.all_eq_true.1 h.1.2 e (Array.mem_toList_iff.2 he)
      simpa [hb] using this
    · exact ih h.2 i (by omega)
theorem maskOf_bit {ms : List Nat} {i x : Nat} (h : Nat.testBit (maskOf ops ms i) x = true) :
    ∃ e ∈ (og ops i).after, Region.binds .any e = true ∧ (e.on = x ∨ Nat.testBit (ms.getD e.on 0) x = true) := by
  unfold maskOf at h
  have key : ∀ (l : List Edge) (m : Nat), Nat.testBit (l.foldl (fun m e => match Region.binds .any e with | true => Nat.lor m (Nat.lor (2 ^ e.on) (ms.getD e.on 0)) | false => m) m) x = true →
      Nat.testBit m x = true ∨ ∃ e ∈ l, Region.binds .any e = true ∧ (e.on = x ∨ Nat.testBit (ms.getD e.on 0) x = true) := by
    intro l
    induction l with
    | nil => intro m h; exact .inl h
    | cons e l ih =>
      intro m h
      simp only [List.foldl_cons] at h
      rcases ih _ h with h | ⟨e', he', r⟩
      · cases hb : Region.binds .any e with
        | false => rw [hb] at h; exact .inl h
        | true =>
          rw [hb] at h
          have h' : Nat.testBit (m ||| (2 ^ e.on ||| ms.getD e.on 0)) x = true := h
          rw [Nat.testBit_or, Nat.testBit_or, Nat.testBit_two_pow] at h'
          simp only [Bool.or_eq_true, decide_eq_true_eq] at h'
          rcases h' with h' | h' | h'
          · exact .inl h'
          · exact .inr ⟨e, by simp, hb, .inl h'⟩
          · exact .inr ⟨e, by simp, hb, .inr h'⟩
      · exact .inr ⟨e', by simp [he'], r⟩
  rcases key _ 0 h with h | ⟨e, he, r⟩
  · simp at h
  · exact ⟨e, Array.mem_toList_iff.1 he, r⟩
theorem befB_spec {ms : List Nat} {n : Nat} (hm : okMasks ops ms n = true) : ∀ (i x : Nat), i < n → befB ms x i = true → Bef ops x i := by
  intro i
  induction i using Nat.strongRecOn with
  | _ i ih =>
    intro x hi h
    unfold befB at h
    obtain ⟨h1, h2⟩ := okMasks_spec n hm i hi
    rw [h1] at h
    obtain ⟨e, he, hb, r⟩ := maskOf_bit h
    rcases r with r | r
    · exact .one he hb r
    · exact .step he hb (ih e.on (h2 e he hb) x (by have := h2 e he hb; omega) r)
def kdB : Kd → Kd → Bool
  | .calm, .calm => true
  | .read, .read => true
  | .alloc, .alloc => true
  | .eff, .eff => true
  | _, _ => false
theorem kdB_spec {a b : Kd} (h : kdB a b = true) : a = b := by cases a <;> cases b <;> first | rfl | (cases h; done)
def selfFree (ops : Array Oper) (o : Oper) : Bool := match o.dst with | some d => !(o.looksAt ops).contains d | none => false
def okPair (P : Program) (ops : Array Oper) (ms : List Nat) (x i : Item) (r : List Nat) : Bool :=
  (og ops x.1).apart ops (og ops i.1) &&
  ((kdB (kd P (og ops x.1).op) .calm && x.2.isEmpty) ||
   ((kdB (kd P (og ops x.1).op) .read && x.2.isEmpty) && ((!kdB (kd P (og ops i.1).op) .eff && i.2.isEmpty) || (memB x.1 i.2 && selfFree ops (og ops x.1)))) ||
   (kdB (kd P (og ops i.1).op) .alloc && i.2.isEmpty && x.2.all fun j => ap1 ops (og ops i.1) (og ops j))) &&
  i.2.all fun j => Nat.beq j x.1 || ap1 ops (og ops x.1) (og ops j) || (memB j r && befB ms x.1 j && Nat.blt j ops.size)
def okList (P : Program) (ops : Array Oper) (ms : List Nat) : List Item → Bool
  | [] => true
  | x :: B => (B.all fun i => (befB ms x.1 i.1 && Nat.blt i.1 ops.size) || okPair P ops ms x i (B.map (·.1))) && (x.2.all fun j => kdB (kd P (og ops j).op) .read && !Nat.beq j x.1) && !memB x.1 (B.map (·.1)) && okList P ops ms B
def Down (ops : Array Oper) (u : Nat → Bool) : Prop := ∀ i, u i = false → ∀ e ∈ (og ops i).after, Region.binds .any e = true → u e.on = false
def Ready (ops : Array Oper) (u : Nat → Bool) (i : Nat) : Prop := u i = true ∧ ∀ e ∈ (og ops i).after, Region.binds .any e = true → u e.on = false
theorem Bef.done {u : Nat → Bool} (hd : Down ops u) {x i : Nat} (b : Bef ops x i) : u i = false → u x = false := by
  induction b with
  | one he hb hx => intro h; rw [← hx]; exact hd _ h _ he hb
  | step he hb _ ih => intro h; exact ih (hd _ h _ he hb)
theorem Bef.ready {u : Nat → Bool} (hd : Down ops u) {x i : Nat} (b : Bef ops x i) (r : Ready ops u i) : u x = false := by
  cases b with
  | one he hb hx => rw [← hx]; exact r.2 _ he hb
  | step he hb b' => exact b'.done hd (r.2 _ he hb)
def rem (u : Nat → Bool) (l : List Item) : List Item := l.filter fun p => u p.1
def remBut (u : Nat → Bool) (i : Nat) (l : List Item) : List Item := l.filter fun p => u p.1 && !Nat.beq p.1 i
theorem mem_remBut {u : Nat → Bool} {i j : Nat} {l : List Item} (hj : j ∈ l.map (·.1)) (hu : u j = true) (hne : j ≠ i) : j ∈ (remBut u i l).map (·.1) := by
  obtain ⟨p, hp, rfl⟩ := List.mem_map.1 hj
  refine List.mem_map.2 ⟨p, List.mem_filter.2 ⟨hp, ?_⟩, rfl⟩
  have : Nat.beq p.1 i = false := by
    cases hb : Nat.beq p.1 i with
    | false => rfl
    | true => exact (hne (Nat.eq_of_beq_eq_true hb)).elim
  simp [hu, this]
theorem remBut_sub {u : Nat → Bool} {i j : Nat} {l : List Item} (h : j ∈ (remBut u i l).map (·.1)) : j ∈ l.map (·.1) := by
  obtain ⟨p, hp, rfl⟩ := List.mem_map.1 h
  exact List.mem_map.2 ⟨p, (List.mem_filter.1 hp).1, rfl⟩
theorem mem_rem {u : Nat → Bool} {j : Nat} {l : List Item} : j ∈ (rem u l).map (·.1) ↔ j ∈ l.map (·.1) ∧ u j = true := by
  constructor
  · intro h
    obtain ⟨p, hp, rfl⟩ := List.mem_map.1 h
    obtain ⟨h1, h2⟩ := List.mem_filter.1 hp
    exact ⟨List.mem_map.2 ⟨p, h1, rfl⟩, h2⟩
  · rintro ⟨h, hu⟩
    obtain ⟨p, hp, rfl⟩ := List.mem_map.1 h
    exact List.mem_map.2 ⟨p, List.mem_filter.2 ⟨hp, hu⟩, rfl⟩
theorem remBut_none {u : Nat → Bool} {i : Nat} {l : List Item} (h : i ∉ l.map (·.1)) : remBut u i l = rem u l := by
  unfold remBut rem
  apply List.filter_congr
  intro p hp
  have : Nat.beq p.1 i = false := by
    cases hb : Nat.beq p.1 i with
    | false => rfl
    | true =>
      exfalso
      exact h (List.mem_map.2 ⟨p, hp, Nat.eq_of_beq_eq_true hb⟩)
  simp [this]
theorem front {ms : List Nat} (hms : okMasks ops ms ops.size = true) {K : Act → Asn} (hsel : ∀ j cs b, (og ops j).op ≠ .select cs b) {u : Nat → Bool} (hd : Down ops u) {i : Item} (hr : Ready ops u i.1) :
    ∀ (cl : List Item), okList P ops ms cl = true → i ∈ cl → ∀ (a : Act) (h : PH), Poss h → rI P ops K (rem u cl) a h → rI P ops K (i :: remBut u i.1 cl) a h := by
  intro cl
  induction cl with
  | nil => intro _ hi; cases hi
  | cons x B ih =>
    intro hok hi a h p q
    simp only [okList, Bool.and_eq_true, Bool.not_eq_true'] at hok
    obtain ⟨⟨⟨hpair, hxc⟩, hxB⟩, hB⟩ := hok
    have hxB' : x.1 ∉ B.map (·.1) := fun hm => by rw [memB_iff.2 hm] at hxB; cases hxB
    by_cases hxi : x.1 = i.1
    · have e : x = i := by
        rcases List.mem_cons.1 hi with e | e
        · exact e.symm
        · exact (hxB' (hxi ▸ List.mem_map.2 ⟨i, e, rfl⟩)).elim
      subst e
      have e1 : rem u (x :: B) = x :: rem u B := by simp [rem, hr.1]
      have e2 : remBut u x.1 (x :: B) = remBut u x.1 B := by simp [remBut]
      rw [e1] at q
      rw [e2, remBut_none hxB']
      exact q
    · have hiB : i ∈ B := by
        rcases List.mem_cons.1 hi with e | e
        · exact (hxi (by rw [e])).elim
        · exact e
      have hbq : Nat.beq x.1 i.1 = false := by
        cases hb : Nat.beq x.1 i.1 with
        | false => rfl
        | true => exact (hxi (Nat.eq_of_beq_eq_true hb)).elim
      cases hux : u x.1 with
      | false =>
        have e1 : rem u (x :: B) = rem u B := by simp [rem, hux]
        have e2 : remBut u i.1 (x :: B) = remBut u i.1 B := by simp [remBut, hux]
        rw [e1] at q
        rw [e2]
        exact ih hB hiB a h p q
      | true =>
        have e1 : rem u (x :: B) = x :: rem u B := by simp [rem, hux]
        have e2 : remBut u i.1 (x :: B) = x :: remBut u i.1 B := by simp [remBut, hux, hbq]
        rw [e1] at q
        rw [e2]
        have q' : rI P ops K (x :: i :: remBut u i.1 B) a h := by
          simp only [rI] at q ⊢
          refine (aF_form _ _).mono q fun v h1 w p1 => ?_
          obtain ⟨w1, w2⟩ := w p1
          refine ⟨fun j hj hn => w1 j hj fun hm => hn ?_, ih hB hiB _ _ p1 w2⟩
          obtain ⟨m1, m2⟩ := mem_rem.1 hm
          by_cases hji : j = i.1
          · simp [hji]
          · simp only [List.map_cons, List.mem_cons]; exact .inr (mem_remBut m1 m2 hji)
        have hpi := List.all_eq_true.1 hpair i hiB
        simp only [Bool.or_eq_true] at hpi
        have hnb : ¬ Bef ops x.1 i.1 := fun b => by have := b.ready hd hr; rw [hux] at this; cases this
        have hpi : okPair P ops ms x i (B.map (·.1)) = true := hpi.resolve_left fun b => by
          simp only [Bool.and_eq_true] at b
          exact hnb (befB_spec hms _ _ (by simpa using b.2) b.1)
        simp only [okPair, Bool.and_eq_true, Bool.or_eq_true, Bool.not_eq_true'] at hpi
        obtain ⟨⟨hap, hhow⟩, hck⟩ := hpi
        have hic : i.2.all (fun j => kdB (kd P (og ops j).op) .read && !Nat.beq j i.1) = true := by
          have : ∀ (B : List Item), okList P ops ms B = true → i ∈ B → i.2.all (fun j => kdB (kd P (og ops j).op) .read && !Nat.beq j i.1) = true := by
            intro B
            induction B with
            | nil => intro _ h; cases h
            | cons y C ihC =>
              intro hC hm
              simp only [okList, Bool.and_eq_true, Bool.not_eq_true'] at hC
              rcases List.mem_cons.1 hm with e | e
              · rw [e]; exact hC.1.1.2
              · exact ihC hC.2 e
          exact this B hB hiB
        have rd1 : ∀ j ∈ x.2, kd P (og ops j).op = .read := fun j hj => by
          have := List.all_eq_true.1 hxc j hj
          simp only [Bool.and_eq_true] at this
          exact kdB_spec this.1
        have rd2 : ∀ j ∈ i.2, kd P (og ops j).op = .read := fun j hj => by
          have := List.all_eq_true.1 hic j hj
          simp only [Bool.and_eq_true] at this
          exact kdB_spec this.1
        have emp : ∀ {l : List Nat}, l.isEmpty = true → l = [] := fun h => List.isEmpty_iff.1 h
        refine swap hsel ⟨hap, ?_, ⟨rd1, rd2⟩, ?_, fun hm => hxB' (remBut_sub hm)⟩ (fun hm => hxB' (remBut_sub hm)) p q'
        · rcases hhow with (⟨h1, h2⟩ | ⟨⟨h1, h2⟩, ⟨h3, h4⟩ | ⟨h3, h4⟩⟩) | ⟨⟨h1, h2⟩, h3⟩
          · exact .inl ⟨kdB_spec h1, emp h2⟩
          · refine .inr (.inl ⟨kdB_spec h1, emp h2, fun e => ?_, emp h4⟩)
            rw [e] at h3; cases h3
          · refine .inr (.inr (.inl ⟨kdB_spec h1, emp h2, memB_iff.1 h3, ?_⟩))
            unfold selfFree at h4
            cases hdd : (og ops x.1).dst with
            | none => rw [hdd] at h4; cases h4
            | some d => rw [hdd] at h4; exact ⟨d, rfl, by simpa using h4⟩
          · exact .inr (.inr (.inr ⟨kdB_spec h1, emp h2, fun j hj => List.all_eq_true.1 h3 j hj⟩))
        · intro j hj
          have := List.all_eq_true.1 hck j hj
          simp only [Bool.or_eq_true, Bool.and_eq_true] at this
          rcases this with (h1 | h1) | ⟨⟨h1, h2⟩, h3⟩
          · exact .inl (Nat.eq_of_beq_eq_true h1)
          · exact .inr (.inr h1)
          · refine .inr (.inl (mem_remBut (memB_iff.1 h1) ?_ ?_))
            · cases huj : u j with
              | true => rfl
              | false => have := (befB_spec hms _ _ (by simpa using h3) h2).done hd huj; rw [hux] at this; cases this
            · intro e
              have := List.all_eq_true.1 hic j hj
              simp only [Bool.and_eq_true, Bool.not_eq_true'] at this
              rw [e] at this
              simp at this
end
end Go.Sl
namespace Go.Sl
open Go
def Is (t : Value) : Value → Asn := fun v _ => v = t
def And2 (x y : Asn) : Asn := fun h => x h ∧ y h
def isUndef (t : Value) : Asn := fun _ => undef = t
def ckE (P : Program) (ops : Array Oper) (o : Oper) (ρ : Env) : Asn :=
  match o.dst with
  | none => no
  | some d =>
    match o.guard with
    | none => vcOp P o.op o.type ρ.eval (Is (ρ.get d))
    | some g =>
      match dstOf ops g.1 with
      | none => no
      | some gd =>
        match ρ.slot gd with
        | .skip => isUndef (ρ.get d)
        | .val u =>
          match g.2 with
          | true => VB u (vcOp P o.op o.type ρ.eval (Is (ρ.get d))) (isUndef (ρ.get d))
          | false => VB u (isUndef (ρ.get d)) (vcOp P o.op o.type ρ.eval (Is (ρ.get d)))
def Cks (P : Program) (ops : Array Oper) (ρ : Env) (rest : Asn) : List Nat → Asn
  | [] => rest
  | j :: l => And2 (ckE P ops (og ops j) ρ) (Cks P ops ρ rest l)
def vcC (P : Program) (ops : Array Oper) : List Item → Env → (Env → Asn) → Asn
  | [], ρ, K => K ρ
  | x :: l, ρ, K =>
    match (og ops x.1).guard with
    | none => vcOp P (og ops x.1).op (og ops x.1).type ρ.eval fun v => Cks P ops (ρ.put (og ops x.1).dst (.val v)) (vcC P ops l (ρ.put (og ops x.1).dst (.val v)) K) x.2
    | some g =>
      match dstOf ops g.1 with
      | none => no
      | some d =>
        match ρ.slot d with
        | .skip => Cks P ops (ρ.put (og ops x.1).dst .skip) (vcC P ops l (ρ.put (og ops x.1).dst .skip) K) x.2
        | .val v =>
          match g.2 with
          | true => VB v
              (vcOp P (og ops x.1).op (og ops x.1).type (ρ.put (some d) (.val (.bool true))).eval fun v =>
                Cks P ops ((ρ.put (some d) (.val (.bool true))).put (og ops x.1).dst (.val v)) (vcC P ops l ((ρ.put (some d) (.val (.bool true))).put (og ops x.1).dst (.val v)) K) x.2)
              (Cks P ops ((ρ.put (some d) (.val (.bool false))).put (og ops x.1).dst .skip) (vcC P ops l ((ρ.put (some d) (.val (.bool false))).put (og ops x.1).dst .skip) K) x.2)
          | false => VB v
              (Cks P ops ((ρ.put (some d) (.val (.bool true))).put (og ops x.1).dst .skip) (vcC P ops l ((ρ.put (some d) (.val (.bool true))).put (og ops x.1).dst .skip) K) x.2)
              (vcOp P (og ops x.1).op (og ops x.1).type (ρ.put (some d) (.val (.bool false))).eval fun v =>
                Cks P ops ((ρ.put (some d) (.val (.bool false))).put (og ops x.1).dst (.val v)) (vcC P ops l ((ρ.put (some d) (.val (.bool false))).put (og ops x.1).dst (.val v)) K) x.2)
def mixB (P : Program) : Bool := P.follows .mixedOrders
def upTo : Nat → List Nat
  | 0 => []
  | n + 1 => n :: upTo n
def okDraw (P : Program) (ops : Array Oper) (ms : List Nat) (cl : List Item) : Bool :=
  mixB P && Region.noSelect ops && okMasks ops ms ops.size && okList P ops ms cl && Nat.ble cl.length ops.size && (upTo ops.size).all (fun i => memB i (cl.map (·.1))) &&
    cl.all fun x => Nat.blt x.1 ops.size
section
variable {P : Program} {ops : Array Oper}
theorem mem_upTo {i n : Nat} (h : i < n) : i ∈ upTo n := by
  induction n with
  | zero => omega
  | succ n ih =>
    by_cases e : i = n
    · subst e; simp [upTo]
    · exact List.mem_cons_of_mem _ (ih (by omega))
theorem og_some {i : Nat} {o : Oper} (h : ops[i]? = some o) : og ops i = o := by simp [og, h]
theorem op_wp {o : Oper} {a : Act} {K : Value → Asn} {KW : Act → World → Prop} {Q : Exit → Act → World → Prop} {h : PH} {hF : FR} {w : World}
    (v : vcOp P o.op o.type a.eval K h) (d : DjF h hF) (s : Sat h w) (f : SatF hF w)
    (k : ∀ (v : Value) (w' : World) (h' : PH), K v h' → DjF h' hF → Sat h' w' → SatF hF w' → KW (a.put o.dst v) w') : o.wp P a w KW Q := by
  unfold Oper.wp
  have hop := vcOp_sound (P := P) (o := o) (ρ := a.eval) (fun _ => rfl) v hF w d s f
  have key : ∀ res : Result Next, UponR P (fun v w' => ∃ h', K v h' ∧ DjF h' hF ∧ Sat h' w' ∧ SatF hF w') res → o.upon P a KW Q res := by
    intro res hres
    rcases res with ⟨nx, w'⟩ | ⟨hh, w'⟩
    · cases nx <;> first | exact (hres : False).elim | skip
      · obtain ⟨h', q, d', s', f'⟩ := hres; exact k _ _ h' q d' s' f'
      · obtain ⟨h', q, d', s', f'⟩ := hres; exact k _ _ h' q d' s' f'
      · refine Calls.mono hres ?_
        rintro e w'' ⟨v, rfl, h', q, d', s', f'⟩
        exact k _ _ h' q d' s' f'
    · exact (hres : False).elim
  exact key _ hop
def unl (listed : Array Bool) (i : Nat) : Bool := !listed.getD i true
theorem unl_set {listed : Array Bool} {i j : Nat} (hi : i < listed.size) : unl (listed.setIfInBounds i true) j = (unl listed j && !Nat.beq j i) := by
  unfold unl
  simp only [Array.getD_eq_getD_getElem?]
  by_cases e : i = j
  · subst e; simp [hi]
  · have : Nat.beq j i = false := by
      cases hb : Nat.beq j i with
      | false => rfl
      | true => exact (e (Nat.eq_of_beq_eq_true hb).symm).elim
    rw [Array.getElem?_setIfInBounds_ne e, this]; simp
theorem any_sound {ms : List Nat} {cl : List Item} {K : Act → Asn} {Q : Exit → Act → World → Prop} {hF : FR} (hok : okDraw P ops ms cl = true)
    (fin : ∀ a h w, K a h → DjF h hF → Sat h w → SatF hF w → Q .normal a w) :
    ∀ (fuel : Nat) (listed : Array Bool) (a : Act) (h : PH) (w : World), listed.size = ops.size → (rem (unl listed) cl).length ≤ fuel → Down ops (unl listed) →
      rI P ops K (rem (unl listed) cl) a h → DjF h hF → Sat h w → SatF hF w → wpAny P .any ops Q fuel listed a w := by
  simp only [okDraw, Bool.and_eq_true] at hok
  obtain ⟨⟨⟨⟨⟨⟨_, hns⟩, hms⟩, hol⟩, hlen⟩, hall⟩, hlt⟩ := hok
  have hsel : ∀ j cs b, (og ops j).op ≠ .select cs b := by
    intro j cs b
    cases ho : ops[j]? with
    | none => simp only [og, Array.getD_eq_getD_getElem?, ho]; intro e; cases e
    | some o => rw [og_some ho]; exact Region.noSelect_spec hns j o cs b ho
  have hmem : ∀ i, i < ops.size → i ∈ cl.map (·.1) := fun i hi => by
    exact memB_iff.1 (List.all_eq_true.1 hall i (mem_upTo hi))
  have hback : ∀ i, i < ops.size → ∀ e ∈ (og ops i).after, Region.binds .any e = true → e.on < i := (okMasks_spec _ hms · · |>.2)
  have unl_lt : ∀ {listed : Array Bool} {i : Nat}, listed.size = ops.size → unl listed i = true → i < ops.size := by
    intro listed i hs hu
    rcases Nat.lt_or_ge i ops.size with g | g
    · exact g
    · exfalso
      unfold unl at hu
      rw [Array.getD_eq_getD_getElem?, Array.getElem?_eq_none (by omega)] at hu
      simp at hu
  have ready_of : ∀ {listed : Array Bool} {i : Nat}, listed.size = ops.size → i ∈ Region.ready .any ops listed → Ready ops (unl listed) i ∧ i < ops.size := by
    intro listed i hs hi
    obtain ⟨h0, o, ho, h1⟩ := mem_ready.1 hi
    have hil : i < ops.size := by
      rcases Nat.lt_or_ge i ops.size with g | g
      · exact g
      · rw [Array.getElem?_eq_none g] at ho; cases ho
    refine ⟨⟨by simp [unl, h0], fun e he hb => ?_⟩, hil⟩
    rw [og_some ho] at he
    have := h1 e he hb
    have he' : e.on < i := hback i hil e (by rw [og_some ho]; exact he) hb
    have hs' : e.on < listed.size := by omega
    unfold unl
    rw [Array.getD_eq_getD_getElem?, Array.getElem?_eq_getElem hs'] at this ⊢
    simpa using this
  have none_left : ∀ {listed : Array Bool}, listed.size = ops.size → Region.ready .any ops listed = [] → rem (unl listed) cl = [] := by
    intro listed hs hr
    have key : ∀ n i, i ≤ n → unl listed i = false := by
      intro n
      induction n using Nat.strongRecOn with
      | _ n ih =>
        intro i hi
        cases hu : unl listed i with
        | false => rfl
        | true =>
          exfalso
          have hil := unl_lt hs hu
          have : i ∈ Region.ready .any ops listed := by
            refine mem_ready.2 ⟨by simpa [unl] using hu, ops[i], by simp [hil], fun e he hb => ?_⟩
            have he' : e.on < i := hback i hil e (by rw [og_some (o := ops[i]) (by simp [hil])]; exact he) hb
            have := ih e.on (by omega) e.on (Nat.le_refl _)
            have hs' : e.on < listed.size := by omega
            unfold unl at this
            rw [Array.getD_eq_getD_getElem?, Array.getElem?_eq_getElem hs'] at this ⊢
            simpa using this
          rw [hr] at this; cases this
    unfold rem
    rw [List.filter_eq_nil_iff]
    intro p _
    rw [key p.1 p.1 (Nat.le_refl _)]
    simp
  intro fuel
  induction fuel with
  | zero =>
    intro listed a h w hs hle hd q d s f
    have e : rem (unl listed) cl = [] := List.eq_nil_of_length_eq_zero (by omega)
    have hr : Region.ready .any ops listed = [] := by
      cases hr : Region.ready .any ops listed with
      | nil => rfl
      | cons i l =>
        exfalso
        obtain ⟨r1, r2⟩ := ready_of hs (i := i) (by rw [hr]; simp)
        have := mem_rem.2 ⟨hmem i r2, r1.1⟩
        rw [e] at this; cases this
    rw [e] at q
    exact ⟨hr, fin a h w q d s f⟩
  | succ fuel ih =>
    intro listed a h w hs hle hd q d s f
    refine ⟨fun hr => ?_, fun i hi => ?_⟩
    · rw [none_left hs hr] at q
      exact fin a h w q d s f
    · obtain ⟨hrd, hil⟩ := ready_of hs hi
      obtain ⟨it, hit, hit1⟩ := List.mem_map.1 (hmem i hil)
      subst hit1
      have q2 := front hms hsel hd hrd cl hol hit a h ⟨w, s⟩ q
      have hset : rem (unl (listed.setIfInBounds it.1 true)) cl = remBut (unl listed) it.1 cl := by
        unfold rem remBut
        apply List.filter_congr
        intro p _
        exact unl_set (by omega)
      have hlen' : (rem (unl (listed.setIfInBounds it.1 true)) cl).length ≤ fuel := by
        have h1 : (remBut (unl listed) it.1 cl).length < (rem (unl listed) cl).length := by
          have e1 : remBut (unl listed) it.1 cl = (rem (unl listed) cl).filter fun p => !Nat.beq p.1 it.1 := by
            unfold remBut rem; rw [List.filter_filter]; congr 1; funext p; exact Bool.and_comm _ _
          rw [e1]
          refine Nat.lt_of_le_of_ne (List.length_filter_le _ _) fun e => ?_
          have := List.length_filter_eq_length_iff.1 e it (List.mem_filter.2 ⟨hit, hrd.1⟩)
          simp at this
        rw [hset]; omega
      have hd' : Down ops (unl (listed.setIfInBounds it.1 true)) := by
        intro j hj e he hb
        rw [unl_set (by omega)] at hj ⊢
        by_cases hji : j = it.1
        · subst hji; rw [hrd.2 e he hb]; rfl
        · have : unl listed j = false := by
            cases hu : unl listed j with
            | false => rfl
            | true =>
              rw [hu] at hj
              have hbq : Nat.beq j it.1 = false := by
                cases hb' : Nat.beq j it.1 with
                | false => rfl
                | true => exact (hji (Nat.eq_of_beq_eq_true hb')).elim
              simp [hbq] at hj
          rw [hd j this e he hb]; rfl
      have ih' := fun a h w q d s f => ih (listed.setIfInBounds it.1 true) a h w (by simpa using hs) hlen' hd' (by rw [hset]; exact q) d s f
      have ho : ops[it.1]? = some ops[it.1] := by simp [hil]
      have hog := og_some ho
      simp only [rI, aF, hog] at q2
      unfold wpOp
      rw [ho]
      dsimp only
      cases hw : Region.wanted ops[it.1] (yielded ops a.tmps) with
      | true =>
        rw [hw] at q2
        rw [if_pos rfl]
        exact .inl (op_wp q2 d s f fun v w' h' k d' s' f' => ih' _ h' w' (k ⟨w', s'⟩).2 d' s' f')
      | false =>
        rw [hw] at q2
        rw [if_neg (by simp)]
        exact ih' _ h w (q2 ⟨w, s⟩).2 d s f
theorem aF_of {n : Nat} {ρ : Env} {a : Act} (r : Rel n ρ a) {o : Oper} {K : Value → Asn} {h : PH} (hw : Region.wanted o (yielded ops a.tmps) = true) (v : vcOp P o.op o.type ρ.eval K h) : aF P ops o a K h := by
  unfold aF; rw [hw, r.eval]; exact v
theorem aF_no {o : Oper} {a : Act} {K : Value → Asn} {h : PH} (hw : Region.wanted o (yielded ops a.tmps) = false) (v : K undef h) : aF P ops o a K h := by
  unfold aF; rw [hw]; exact v
theorem ckE_sound {n : Nat} {ρ : Env} {a : Act} (r : Rel n ρ a) {o : Oper} {h : PH} (v : ckE P ops o ρ h) : chk P ops o a h := by
  intro d hd
  simp only [ckE, hd] at v
  rw [r.2 d]
  cases hg : o.guard with
  | none => simp only [hg] at v; exact aF_of r (by simp [Region.wanted, hg]) v
  | some g =>
    simp only [hg] at v
    cases hds : dstOf ops g.1 with
    | none => simp only [hds] at v; exact v.elim
    | some gd =>
      simp only [hds] at v
      cases hs : ρ.slot gd with
      | skip => simp only [hs] at v; exact aF_no (wanted_skip r hg hds hs) v
      | val u =>
        simp only [hs] at v
        cases hg2 : g.2 with
        | true =>
          simp only [hg2] at v
          obtain ⟨b, rfl, v⟩ := VB_cases v
          have hw := wanted_val r hg hds hs
          rw [hg2] at hw
          cases b with
          | true => exact aF_of r (by rw [hw]; rfl) v
          | false => exact aF_no (by rw [hw]; rfl) v
        | false =>
          simp only [hg2] at v
          obtain ⟨b, rfl, v⟩ := VB_cases v
          have hw := wanted_val r hg hds hs
          rw [hg2] at hw
          cases b with
          | true => exact aF_no (by rw [hw]; rfl) v
          | false => exact aF_of r (by rw [hw]; rfl) v
theorem Cks_sound {n : Nat} {ρ : Env} {a : Act} (r : Rel n ρ a) {rest : Asn} {h : PH} : ∀ (l : List Nat), Cks P ops ρ rest l h → (∀ j ∈ l, chk P ops (og ops j) a h) ∧ rest h := by
  intro l
  induction l with
  | nil => intro v; exact ⟨by simp, v⟩
  | cons j l ih =>
    rintro ⟨v1, v2⟩
    obtain ⟨h1, h2⟩ := ih v2
    refine ⟨fun k hk => ?_, h2⟩
    rcases List.mem_cons.1 hk with e | e
    · subst e; exact ckE_sound r v1
    · exact h1 k e
theorem vcC_sound {n : Nat} {K : Env → Asn} {W : List Nat} {a0 : Act} : ∀ (cl : List Item) (ρ : Env) (a : Act) (h : PH), Rel n ρ a →
    (∀ x ∈ cl, ∀ d, (og ops x.1).dst = some d → d < n ∧ memB d W = true) → a.defers = a0.defers → agree W a0 a → vcC P ops cl ρ K h →
    rI P ops (fun a' h' => a'.defers = a0.defers ∧ agree W a0 a' ∧ ∃ ρ', Rel n ρ' a' ∧ K ρ' h') cl a h := by
  intro cl
  induction cl with
  | nil => intro ρ a h r _ hd ag v; exact ⟨hd, ag, ρ, r, v⟩
  | cons x l ih =>
    intro ρ a h r hdst hdf hag v
    have hd : ∀ d, (og ops x.1).dst = some d → d < n := fun d e => (hdst x (by simp) d e).1
    have hW : ∀ d, (og ops x.1).dst = some d → memB d W = true := fun d e => (hdst x (by simp) d e).2
    have hdf' : ∀ v, (a.put (og ops x.1).dst v).defers = a0.defers := by intro v; cases ho : (og ops x.1).dst <;> simpa [Act.put] using hdf
    have ih' := fun ρ a h r e g v => ih ρ a h r (fun o ho => hdst o (by simp [ho])) e g v
    have go : ∀ (ρ : Env) (u : Value) (s : Slot) (h' : PH), Rel n ρ a → s.get = u → Cks P ops (ρ.put (og ops x.1).dst s) (vcC P ops l (ρ.put (og ops x.1).dst s) K) x.2 h' →
        (∀ j ∈ x.2, j ∉ l.map (·.1) → chk P ops (og ops j) (a.put (og ops x.1).dst u) h') ∧
          rI P ops (fun a' h' => a'.defers = a0.defers ∧ agree W a0 a' ∧ ∃ ρ', Rel n ρ' a' ∧ K ρ' h') l (a.put (og ops x.1).dst u) h' := by
      intro ρ u s h' r hs v
      have r' := r.put (og ops x.1).dst hd s u hs
      obtain ⟨c1, c2⟩ := Cks_sound r' _ v
      exact ⟨fun j hj _ => c1 j hj, ih' _ _ h' r' (hdf' u) (hag.put hW) c2⟩
    have run : ∀ (ρ : Env), Rel n ρ a → Region.wanted (og ops x.1) (yielded ops a.tmps) = true →
        vcOp P (og ops x.1).op (og ops x.1).type ρ.eval (fun v => Cks P ops (ρ.put (og ops x.1).dst (.val v)) (vcC P ops l (ρ.put (og ops x.1).dst (.val v)) K) x.2) h →
        rI P ops (fun a' h' => a'.defers = a0.defers ∧ agree W a0 a' ∧ ∃ ρ', Rel n ρ' a' ∧ K ρ' h') (x :: l) a h := by
      intro ρ r hw v
      simp only [rI]
      refine (aF_form _ _).mono (aF_of r hw v) fun u h' q _ => go ρ u _ h' r rfl q
    have skip : ∀ (ρ : Env), Rel n ρ a → Region.wanted (og ops x.1) (yielded ops a.tmps) = false →
        Cks P ops (ρ.put (og ops x.1).dst .skip) (vcC P ops l (ρ.put (og ops x.1).dst .skip) K) x.2 h →
        rI P ops (fun a' h' => a'.defers = a0.defers ∧ agree W a0 a' ∧ ∃ ρ', Rel n ρ' a' ∧ K ρ' h') (x :: l) a h := by
      intro ρ r hw v
      simp only [rI]
      exact aF_no hw fun _ => go ρ undef .skip h r rfl v
    cases hg : (og ops x.1).guard with
    | none =>
      simp only [vcC, hg] at v
      exact run ρ r (by simp [Region.wanted, hg]) v
    | some g =>
      simp only [vcC, hg] at v
      cases hds : dstOf ops g.1 with
      | none => simp only [hds] at v; exact v.elim
      | some dd =>
        simp only [hds] at v
        cases hs : ρ.slot dd with
        | skip => simp only [hs] at v; exact skip ρ r (wanted_skip r hg hds hs) v
        | val u =>
          simp only [hs] at v
          cases hg2 : g.2 with
          | true =>
            simp only [hg2] at v
            obtain ⟨b, rfl, v⟩ := VB_cases v
            have hw := wanted_val r hg hds hs
            rw [hg2] at hw
            cases b with
            | true => exact run _ (r.over hs rfl) (by rw [hw]; rfl) v
            | false => exact skip _ (r.over hs rfl) (by rw [hw]; rfl) v
          | false =>
            simp only [hg2] at v
            obtain ⟨b, rfl, v⟩ := VB_cases v
            have hw := wanted_val r hg hds hs
            rw [hg2] at hw
            cases b with
            | true => exact skip _ (r.over hs rfl) (by rw [hw]; rfl) v
            | false => exact run _ (r.over hs rfl) (by rw [hw]; rfl) v
theorem draw_sound {n : Nat} {ms : List Nat} {cl : List Item} {ρ : Env} {a : Act} {K : Env → Asn} {Q : Exit → Act → World → Prop} {h : PH} {hF : FR} {w : World} {W : List Nat} {id : Nat}
    (hok : okDraw P ops ms cl = true) (r : Rel n ρ a) (hdst : ∀ o ∈ ops.toList, ∀ x, o.dst = some x → x < n ∧ memB x W = true) (v : vcC P ops cl ρ K h) (d : DjF h hF) (s : Sat h w) (f : SatF hF w)
    (q : ∀ a' ρ' h' w', a'.defers = a.defers → agree W a a' → Rel n ρ' a' → K ρ' h' → DjF h' hF → Sat h' w' → SatF hF w' → Q .normal a' w') : (Code.region id ops true).wp P Q a w := by
  have hok0 := hok
  simp only [okDraw, Bool.and_eq_true] at hok
  obtain ⟨⟨⟨⟨⟨⟨hm, _⟩, _⟩, _⟩, hlen⟩, _⟩, hlt⟩ := hok
  refine wp_region_any hm (any_sound (K := fun a' h' => a'.defers = a.defers ∧ agree W a a' ∧ ∃ ρ', Rel n ρ' a' ∧ K ρ' h') (hF := hF) hok0 ?_ ops.size _ a h _ (by simp) ?_ ?_ ?_ d s f)
  · rintro a' h' w' ⟨h1, h2, ρ', h3, h4⟩ d' s' f'
    exact q a' ρ' h' w' h1 h2 h3 h4 d' s' f'
  · have h1 : (rem (unl (Array.replicate ops.size false)) cl).length ≤ cl.length := List.length_filter_le _ _
    have := Nat.le_of_ble_eq_true hlen
    omega
  · intro i hi e he hb
    rcases Nat.lt_or_ge i ops.size with g | g
    · unfold unl at hi; simp [g] at hi
    · have e0 : og ops i = default := by unfold og; rw [Array.getD_eq_getD_getElem?, Array.getElem?_eq_none g]; rfl
      rw [e0] at he
      have e1 : (default : Oper).after = #[] := rfl
      rw [e1] at he
      simp at he
  · have e : rem (unl (Array.replicate ops.size false)) cl = cl := by
      unfold rem
      rw [List.filter_eq_self]
      intro x hx
      have := List.all_eq_true.1 hlt x hx
      have hx' : x.1 < ops.size := by simpa using this
      simp [unl, hx']
    rw [e]
    refine vcC_sound cl ρ a h r ?_ rfl (agree.refl _ _) v
    intro x hx dd hdd
    have := List.all_eq_true.1 hlt x hx
    have hx' : x.1 < ops.size := by simpa using this
    have e0 : og ops x.1 = ops[x.1] := og_some (by simp [hx'])
    rw [e0] at hdd
    exact hdst _ (by simp) dd hdd
end
end Go.Sl
namespace Go.Sl
open Go
inductive Ann where
  | leaf
  | draw (ms : List Nat) (cl : List Item)
  | seq (a b : Ann)
  | join (a b : Ann) (live keep : List Nat)
  | cond (a b : Ann)
  | block (a : Ann)
  | blockJ (a : Ann) (live keep : List Nat)
  | loop (a : Ann) (live keep : List Nat)
def vc (P : Program) : Ann → Code → Env → (Env → Asn) → (Nat → Env → Asn) → (Env → Asn) → Asn
  | .leaf, c, ρ, kn, ke, kr => (match c with
    | .skip => kn ρ
    | .exit id => ke id ρ
    | .ret => kr ρ
    | .region _ ops d => (match d with | false => vcOps P ops ops.toList ρ kn | true => no)
    | _ => no)
  | .draw ms cl, c, ρ, kn, ke, kr => (match c with
    | .region _ ops d => (match d with
      | true => (match okDraw P ops ms cl with | true => vcC P ops cl ρ kn | false => no)
      | false => no)
    | _ => no)
  | .seq a b, c, ρ, kn, ke, kr => (match c with
    | .seq x y => vc P a x ρ (fun ρ' => vc P b y ρ' kn ke kr) ke kr
    | _ => no)
  | .join a b live keep, c, ρ, kn, ke, kr => (match c with
    | .seq x y => (match apart keep (wr x) with
      | true => VJ (fun k => vc P a x ρ (fun ρ' => k (ρ'.out live)) ke kr) (fun xs j => vc P b y (ρ.mix live keep xs j) kn ke kr)
      | false => no)
    | _ => no)
  | .cond a b, c, ρ, kn, ke, kr => (match c with
    | .cond t x y => VB (ρ.eval t) (vc P a x ρ kn ke kr) (vc P b y ρ kn ke kr)
    | _ => no)
  | .block a, c, ρ, kn, ke, kr => (match c with
    | .block id x => vc P a x ρ kn (fun i ρ' => match Nat.beq i id with | true => kn ρ' | false => ke i ρ') kr
    | _ => no)
  | .blockJ a live keep, c, ρ, kn, ke, kr => (match c with
    | .block id x => (match apart keep (wr x) with
      | true => VJ (fun k => vc P a x ρ (fun ρ' => k (ρ'.out live)) (fun i ρ' => match Nat.beq i id with | true => k (ρ'.out live) | false => ke i ρ') kr)
          (fun xs j => kn (ρ.mix live keep xs j))
      | false => no)
    | _ => no)
  | .loop a live keep, c, ρ, kn, ke, kr => (match c with
    | .loop x => (match apart keep (wr x) with
      | true => VL (ρ.out live) (fun xs j k => vc P a x (ρ.mix live keep xs j) (fun ρ' => k (ρ'.out live)) ke kr)
      | false => no)
    | _ => no)
section
variable {P : Program}
theorem getD_mem {t : Nat} {n : Nat} {c : Code} (hf : fits n c = true) (ht : memB t (wr c) = true) : t < n := by
  have := List.all_eq_true.1 hf t (memB_iff.1 ht)
  simpa using this
theorem fits_seq {n : Nat} {x y : Code} (hf : fits n (.seq x y) = true) : fits n x = true ∧ fits n y = true := by
  simpa [fits, wr, List.all_append] using hf
theorem fits_cond {n : Nat} {o : Operand} {x y : Code} (hf : fits n (.cond o x y) = true) : fits n x = true ∧ fits n y = true := by
  simpa [fits, wr, List.all_append] using hf
theorem apart_spec {keep w : List Nat} (h : Sl.apart keep w = true) : ∀ t ∈ keep, memB t w = false := by
  intro t ht
  have := List.all_eq_true.1 h t ht
  simpa using this
theorem look_liveE {a : Act} {xs : List Value} {x : Slot} : ∀ (live : List Nat) (i : Nat) (r : List (Nat × Slot)) (t : Nat), (∀ k (t' : Nat), live[k]? = some t' → nth xs (i + k) = a.tmps.getD t' undef) →
    (look t x r).get = a.tmps.getD t undef → (look t x (liveE xs i live ++ r)).get = a.tmps.getD t undef := by
  intro live
  induction live with
  | nil => intro i r t _ h; exact h
  | cons u live ih =>
    intro i r t hx h
    simp only [liveE, List.cons_append, look]
    cases hb : Nat.beq u t with
    | true =>
      have := Nat.eq_of_beq_eq_true hb
      subst this
      exact hx 0 u rfl
    | false => exact ih (i + 1) r t (fun k t' e => by have := hx (k + 1) t' (by simpa using e); rw [← this]; congr 1; omega) h
theorem look_keep {a : Act} {ρ : Env} {x : Slot} : ∀ (keep : List Nat) (t : Nat), (∀ t ∈ keep, ρ.get t = a.tmps.getD t undef) → x.get = a.tmps.getD t undef →
    (look t x (keep.map fun t => (t, ρ.slot t))).get = a.tmps.getD t undef := by
  intro keep
  induction keep with
  | nil => intro t _ h; exact h
  | cons u keep ih =>
    intro t hk h
    simp only [List.map_cons, look]
    cases hb : Nat.beq u t with
    | true =>
      have := Nat.eq_of_beq_eq_true hb
      subst this
      exact hk u (by simp)
    | false => exact ih t (fun t ht => hk t (by simp [ht])) h
theorem Rel.mix {n : Nat} {ρ ρ' : Env} {a a' : Act} {W live keep : List Nat} (r : Rel n ρ a) (r' : Rel n ρ' a') (ag : agree W a a') (hk : Sl.apart keep W = true) :
    Rel n (ρ.mix live keep (ρ'.out live) (fun t => a'.tmps.getD t undef)) a' := by
  refine ⟨r'.1, fun t => ?_⟩
  symm
  refine look_liveE live 0 _ t ?_ ?_
  · intro k t' e
    simp only [nth, Env.out, Nat.zero_add, List.getD_eq_getElem?_getD, List.getElem?_map, e]
    exact (r'.2 t').symm
  · refine look_keep keep t (fun t ht => ?_) rfl
    rw [ag t (apart_spec hk t ht)]
    exact (r.2 t).symm
theorem Post.mono {n : Nat} {W V : List Nat} {a0 a1 : Act} {hF : FR} {kn kn' : Env → Asn} {ke ke' : Nat → Env → Asn} {kr kr' : Env → Asn} {e : Exit} {a : Act} {w : World}
    (p : Post n W a1 hF kn ke kr e a w) (hd : a1.defers = a0.defers) (ag : agree V a0 a1) (s : ∀ t, memB t V = false → memB t W = false)
    (h1 : ∀ ρ h, kn ρ h → kn' ρ h) (h2 : ∀ i ρ h, ke i ρ h → ke' i ρ h) (h3 : ∀ ρ h, kr ρ h → kr' ρ h) : Post n V a0 hF kn' ke' kr' e a w := by
  obtain ⟨p1, p2, ρ', h', p3, p4, p5, p6, p7⟩ := p
  refine ⟨p1.trans hd, ag.trans (p2.mono s), ρ', h', p3, p4, p5, p6, ?_⟩
  cases e <;> first | exact h1 _ _ p7 | exact h2 _ _ _ p7 | exact h3 _ _ p7 | exact p7
theorem Post.pass {n : Nat} {W V : List Nat} {a0 a1 : Act} {hF : FR} {kn kn' : Env → Asn} {ke ke' : Nat → Env → Asn} {kr kr' : Env → Asn} {e : Exit} {a : Act} {w : World}
    (p : Post n W a1 hF kn ke kr e a w) (hne : e ≠ .normal) (hd : a1.defers = a0.defers) (ag : agree V a0 a1) (s : ∀ t, memB t V = false → memB t W = false)
    (h2 : ∀ i ρ h, ke i ρ h → ke' i ρ h) (h3 : ∀ ρ h, kr ρ h → kr' ρ h) : Post n V a0 hF kn' ke' kr' e a w := by
  obtain ⟨p1, p2, ρ', h', p3, p4, p5, p6, p7⟩ := p
  refine ⟨p1.trans hd, ag.trans (p2.mono s), ρ', h', p3, p4, p5, p6, ?_⟩
  cases e <;> first | exact (hne rfl).elim | exact h2 _ _ _ p7 | exact h3 _ _ p7 | exact p7
theorem loop_wp {c : Code} {Q : Exit → Act → World → Prop} (I : Nat → Act → World → Prop)
    (round : ∀ n a w, I n a w → c.wp P (Exit.then (fun a' w' => ∃ m, m < n ∧ I m a' w') Q) a w) : ∀ n a w, I n a w → (Code.loop c).wp P Q a w := by
  intro n a w h0 b k cs
  have key : ∀ n a w, I n a w → ∃ e a' w', Q e a' w' ∧ Arrives P (lone (b.at a (.code c :: .inLoop c :: k)) cs w) b k cs e a' w' := by
    intro n
    induction n using Nat.strongRecOn with
    | _ n ih =>
      intro a w hI
      obtain ⟨e, a₁, w₁, hq, harr⟩ := round n a w hI b (.inLoop c :: k) cs
      cases e with
      | normal =>
        obtain ⟨m, hlt, hI₁⟩ := hq
        obtain ⟨e₂, a₂, w₂, hq₂, harr₂⟩ := ih m hlt a₁ w₁ hI₁
        exact ⟨e₂, a₂, w₂, hq₂, .of_steps (Steps.trans harr (.one step_inLoop)) harr₂⟩
      | exit id => exact ⟨_, a₁, w₁, hq, .pass (x := .inLoop c) rfl (fun _ _ => .inl (by simp)) harr⟩
      | goto l => exact ⟨_, a₁, w₁, hq, .pass (x := .inLoop c) rfl (fun _ _ => .inl (by simp)) harr⟩
      | ret => exact ⟨_, a₁, w₁, hq, .pass (x := .inLoop c) rfl (fun _ _ => .inl (by simp)) harr⟩
      | panic ch => exact ⟨_, a₁, w₁, hq, .pass (x := .inLoop c) rfl (fun _ _ => .inl (by simp)) harr⟩
      | outgrown => exact ⟨_, a₁, w₁, hq, .pass (x := .inLoop c) rfl (fun _ _ => .inl (by simp)) harr⟩
  obtain ⟨e, a', w', hq, harr⟩ := key n a w h0
  exact ⟨e, a', w', hq, .of_steps (.one step_loop) harr⟩
theorem vc_sound {n : Nat} {hF : FR} : ∀ (ann : Ann) (c : Code) (ρ : Env) (kn : Env → Asn) (ke : Nat → Env → Asn) (kr : Env → Asn) (a : Act) (h : PH) (w : World),
    Rel n ρ a → fits n c = true → vc P ann c ρ kn ke kr h → DjF h hF → Sat h w → SatF hF w → c.wp P (Post n (wr c) a hF kn ke kr) a w := by
  intro ann
  induction ann with
  | leaf =>
    intro c ρ kn ke kr a h w r hf v d s f
    cases c <;> first | exact (v : False).elim | skip
    · exact wp_skip ⟨rfl, agree.refl _ _, ρ, h, r, d, s, f, v⟩
    · rename_i id ops dr
      cases dr with
      | true => exact (v : False).elim
      | false =>
        refine wp_region_list (vcOps_sound (W := wr (.region id ops false)) (a0 := a) ops.toList ρ a h w r ?_ v d s f rfl (agree.refl _ _) ?_)
        · intro o ho x hx
          have hm : memB x (wr (.region id ops false)) = true := memB_iff.2 (List.mem_filterMap.2 ⟨o, ho, hx⟩)
          exact ⟨getD_mem hf hm, hm⟩
        · intro a' ρ' h' w' hd ag r' k d' s' f'
          exact ⟨hd, ag, ρ', h', r', d', s', f', k⟩
    · exact wp_exit ⟨rfl, agree.refl _ _, ρ, h, r, d, s, f, v⟩
    · exact wp_ret ⟨rfl, agree.refl _ _, ρ, h, r, d, s, f, v⟩
  | draw ms cl =>
    intro c ρ kn ke kr a h w r hf v d s f
    cases c <;> first | exact (v : False).elim | skip
    rename_i id ops dr
    cases dr with
    | false => exact (v : False).elim
    | true =>
      simp only [vc] at v
      cases hok : okDraw P ops ms cl with
      | false => simp only [hok] at v; exact v.elim
      | true =>
        simp only [hok] at v
        refine draw_sound (W := wr (.region id ops true)) hok r (fun o ho x hx => ?_) v d s f ?_
        · have hm : memB x (wr (.region id ops true)) = true := memB_iff.2 (List.mem_filterMap.2 ⟨o, ho, hx⟩)
          exact ⟨getD_mem hf hm, hm⟩
        · intro a' ρ' h' w' hd ag r' k d' s' f'
          exact ⟨hd, ag, ρ', h', r', d', s', f', k⟩
  | seq x y ihx ihy =>
    intro c ρ kn ke kr a h w r hf v d s f
    cases c <;> first | exact (v : False).elim | skip
    rename_i cx cy
    obtain ⟨fx, fy⟩ := fits_seq hf
    refine wp_seq (wp_mono (ihx cx ρ _ _ _ a h w r fx v d s f) ?_)
    intro e a1 w1 p
    have sl : ∀ t, memB t (wr (.seq cx cy)) = false → memB t (wr cx) = false := fun t ht => by
      simp only [wr, memB_append, Bool.or_eq_false_iff] at ht; exact ht.1
    have sr : ∀ t, memB t (wr (.seq cx cy)) = false → memB t (wr cy) = false := fun t ht => by
      simp only [wr, memB_append, Bool.or_eq_false_iff] at ht; exact ht.2
    have next : ∀ ρ' h' (kn' : Env → Asn), a1.defers = a.defers → agree (wr cx) a a1 → Rel n ρ' a1 → DjF h' hF → Sat h' w1 → SatF hF w1 → vc P y cy ρ' kn ke kr h' →
        cy.wp P (Post n (wr (.seq cx cy)) a hF kn ke kr) a1 w1 := by
      intro ρ' h' _ p1 p2 p3 p4 p5 p6 p7
      refine wp_mono (ihy cy ρ' kn ke kr a1 h' w1 p3 fy p7 p4 p5 p6) ?_
      intro e2 a2 w2 q
      exact q.mono p1 (p2.mono sl) sr (fun _ _ x => x) (fun _ _ _ x => x) (fun _ _ x => x)
    cases e with
    | normal =>
      obtain ⟨p1, p2, ρ', h', p3, p4, p5, p6, p7⟩ := p
      exact next ρ' h' kn p1 p2 p3 p4 p5 p6 p7
    | _ => exact p.pass (kn' := kn) (by simp) rfl (agree.refl _ _) sl (fun _ _ _ x => x) (fun _ _ x => x)
  | join x y live keep ihx ihy =>
    intro c ρ kn ke kr a h w r hf v d s f
    cases c <;> first | exact (v : False).elim | skip
    rename_i cx cy
    obtain ⟨fx, fy⟩ := fits_seq hf
    simp only [vc] at v
    cases hap : Sl.apart keep (wr cx) with
    | false => simp only [hap] at v; exact v.elim
    | true =>
    simp only [hap] at v
    obtain ⟨J, v1, v2⟩ := v
    refine wp_seq (wp_mono (ihx cx ρ _ _ _ a h w r fx v1 d s f) ?_)
    intro e a1 w1 p
    have sl : ∀ t, memB t (wr (.seq cx cy)) = false → memB t (wr cx) = false := fun t ht => by
      simp only [wr, memB_append, Bool.or_eq_false_iff] at ht; exact ht.1
    have sr : ∀ t, memB t (wr (.seq cx cy)) = false → memB t (wr cy) = false := fun t ht => by
      simp only [wr, memB_append, Bool.or_eq_false_iff] at ht; exact ht.2
    cases e with
    | normal =>
      obtain ⟨p1, p2, ρ', h', p3, p4, p5, p6, p7⟩ := p
      refine wp_mono (ihy cy _ kn ke kr a1 h' w1 (r.mix p3 p2 hap) fy (v2 _ _ h' p7) p4 p5 p6) ?_
      intro e2 a2 w2 q
      exact q.mono p1 (p2.mono sl) sr (fun _ _ x => x) (fun _ _ _ x => x) (fun _ _ x => x)
    | _ => exact p.pass (kn' := kn) (by simp) rfl (agree.refl _ _) sl (fun _ _ _ x => x) (fun _ _ x => x)
  | cond x y ihx ihy =>
    intro c ρ kn ke kr a h w r hf v d s f
    cases c <;> first | exact (v : False).elim | skip
    rename_i t cx cy
    obtain ⟨fx, fy⟩ := fits_cond hf
    simp only [vc] at v
    obtain ⟨b, hb, v⟩ := VB_cases v
    have hc : a.eval t = .bool b := by rw [r.eval]; exact hb
    have sl : ∀ t', memB t' (wr (.cond t cx cy)) = false → memB t' (wr cx) = false := fun t' ht => by
      simp only [wr, memB_append, Bool.or_eq_false_iff] at ht; exact ht.1
    have sr : ∀ t', memB t' (wr (.cond t cx cy)) = false → memB t' (wr cy) = false := fun t' ht => by
      simp only [wr, memB_append, Bool.or_eq_false_iff] at ht; exact ht.2
    cases b with
    | true =>
      refine wp_cond_true hc (wp_mono (ihx cx ρ kn ke kr a h w r fx v d s f) ?_)
      intro e a1 w1 p
      exact p.mono rfl (agree.refl _ _) sl (fun _ _ x => x) (fun _ _ _ x => x) (fun _ _ x => x)
    | false =>
      refine wp_cond_false hc (wp_mono (ihy cy ρ kn ke kr a h w r fy v d s f) ?_)
      intro e a1 w1 p
      exact p.mono rfl (agree.refl _ _) sr (fun _ _ x => x) (fun _ _ _ x => x) (fun _ _ x => x)
  | block x ihx =>
    intro c ρ kn ke kr a h w r hf v d s f
    cases c <;> first | exact (v : False).elim | skip
    rename_i id cx
    refine wp_block (wp_mono (ihx cx ρ _ _ _ a h w r hf v d s f) ?_)
    intro e a1 w1 p
    obtain ⟨p1, p2, ρ', h', p3, p4, p5, p6, p7⟩ := p
    cases e with
    | normal => exact ⟨p1, p2, ρ', h', p3, p4, p5, p6, p7⟩
    | exit i =>
      simp only [Exit.inBlock]
      cases hb : Nat.beq i id with
      | true =>
        rw [if_pos (Nat.eq_of_beq_eq_true hb)]
        simp only [hb] at p7
        exact ⟨p1, p2, ρ', h', p3, p4, p5, p6, p7⟩
      | false =>
        rw [if_neg (Nat.ne_of_beq_eq_false hb)]
        simp only [hb] at p7
        exact ⟨p1, p2, ρ', h', p3, p4, p5, p6, p7⟩
    | ret => exact ⟨p1, p2, ρ', h', p3, p4, p5, p6, p7⟩
    | _ => exact p7.elim
  | blockJ x live keep ihx =>
    intro c ρ kn ke kr a h w r hf v d s f
    cases c <;> first | exact (v : False).elim | skip
    rename_i id cx
    simp only [vc] at v
    cases hap : Sl.apart keep (wr cx) with
    | false => simp only [hap] at v; exact v.elim
    | true =>
    simp only [hap] at v
    obtain ⟨J, v1, v2⟩ := v
    refine wp_block (wp_mono (ihx cx ρ _ _ _ a h w r hf v1 d s f) ?_)
    intro e a1 w1 p
    obtain ⟨p1, p2, ρ', h', p3, p4, p5, p6, p7⟩ := p
    cases e with
    | normal => exact ⟨p1, p2, _, h', r.mix p3 p2 hap, p4, p5, p6, v2 _ _ h' p7⟩
    | exit i =>
      simp only [Exit.inBlock]
      cases hb : Nat.beq i id with
      | true =>
        rw [if_pos (Nat.eq_of_beq_eq_true hb)]
        simp only [hb] at p7
        exact ⟨p1, p2, _, h', r.mix p3 p2 hap, p4, p5, p6, v2 _ _ h' p7⟩
      | false =>
        rw [if_neg (Nat.ne_of_beq_eq_false hb)]
        simp only [hb] at p7
        exact ⟨p1, p2, ρ', h', p3, p4, p5, p6, p7⟩
    | ret => exact ⟨p1, p2, ρ', h', p3, p4, p5, p6, p7⟩
    | _ => exact p7.elim
  | loop x live keep ihx =>
    intro c ρ kn ke kr a h w r hf v d s f
    cases c <;> first | exact (v : False).elim | skip
    rename_i cx
    simp only [vc] at v
    cases hap : Sl.apart keep (wr cx) with
    | false => simp only [hap] at v; exact v.elim
    | true =>
    simp only [hap] at v
    obtain ⟨I, ⟨m, v1⟩, v2⟩ := v
    refine loop_wp (fun k a1 w1 => a1.defers = a.defers ∧ agree (wr cx) a a1 ∧ ∃ ρ1 h1, Rel n ρ1 a1 ∧ DjF h1 hF ∧ Sat h1 w1 ∧ SatF hF w1 ∧ I k (ρ1.out live) h1) ?_ m a w
      ⟨rfl, agree.refl _ _, ρ, h, r, d, s, f, v1⟩
    rintro k a1 w1 ⟨p1, p2, ρ1, h1, p3, p4, p5, p6, p7⟩
    refine wp_mono (ihx cx _ _ _ _ a1 h1 w1 (r.mix p3 p2 hap) hf (v2 k _ _ h1 p7) p4 p5 p6) ?_
    intro e a2 w2 q
    cases e with
    | normal =>
      obtain ⟨q1, q2, ρ2, h2, q3, q4, q5, q6, q, q7, q8⟩ := q
      exact ⟨q, q7, q1.trans p1, p2.trans q2, ρ2, h2, q3, q4, q5, q6, q8⟩
    | _ => exact q.pass (kn' := kn) (by simp) p1 p2 (fun _ x => x) (fun _ _ _ x => x) (fun _ _ x => x)
end
end Go.Sl
namespace Go.Sl
open Go
section
variable {P : Program}
def startE : Nat → List Value → List (Nat × Slot)
  | _, [] => []
  | i, v :: r => (i, .val v) :: startE (i + 1) r
def start (args : List Value) : Env := ⟨startE 0 args, fun _ => undef⟩
def retV : List Value → Value
  | [v] => v
  | vs => .tuple vs.toArray
def resK (P : Program) : List ResultVar → Env → (List Value → Asn) → Asn
  | [], _, K => K []
  | x :: r, ρ, K =>
    match x with
    | .tmp t => resK P r ρ fun vs => K (ρ.get t :: vs)
    | .cell a t => (match ldk P t with
      | some k => Ld k (ρ.get a) fun v => resK P r ρ fun vs => K (v :: vs)
      | none => no)
theorem loadCellsFrom_run {b off : Nat} {c : Array Value} {e : TypeId} {fz : Nat × Nat} {w : World} (hb : w.heap[b]? = some (.cells c e fz)) :
    ∀ (n i : Nat) (acc : Array Value), off + i + n ≤ c.size → (loadCellsFrom ⟨b, off, none⟩ i n acc).run P w = .ok (acc ++ ((c.toList.drop (off + i)).take n).toArray) w := by
  intro n
  induction n with
  | zero => intro i acc _; simp [loadCellsFrom]
  | succ n ih =>
    intro i acc hle
    have hlt : off + i < c.size := by omega
    have hc : w.cell? ((⟨b, off, none⟩ : Addr).add i) = some c[off + i] := by
      rw [add_off]; simp [World.cell?, hb, hlt]
    unfold loadCellsFrom
    rw [Sem.run_bind]
    have hl : (load ((⟨b, off, none⟩ : Addr).add i)).run P w = .ok c[off + i] w := by simp [load, Sem.run, hc]
    rw [hl]
    simp only [Result.andThen_ok]
    rw [ih (i + 1) _ (by omega)]
    have e1 : (c.toList.drop (off + i)).take (n + 1) = c[off + i] :: (c.toList.drop (off + (i + 1))).take n := by
      rw [List.drop_eq_getElem_cons (by simpa using hlt)]; simp [Nat.add_assoc]
    rw [e1]
    simp
theorem loadVar_run {t : TypeId} {k : Option Nat} {b off : Nat} {c : Array Value} {e : TypeId} {fz : Nat × Nat} {v : Value} {w : World}
    (hk : ldk P t = some k) (hb : w.heap[b]? = some (.cells c e fz)) (hv : rdV c.toList off k = some v) : (loadVar t ⟨b, off, none⟩).run P w = .ok v w := by
  obtain ⟨d, hd, h⟩ := ldk_some hk
  unfold loadVar
  rw [Sem.run_bind, isAgg_run hd]
  rcases h with ⟨ha, n, hn, rfl⟩ | ⟨ha, rfl⟩
  · simp only [rdV, Option.map_eq_some_iff] at hv
    obtain ⟨l, hl, rfl⟩ := hv
    obtain ⟨hle, rfl⟩ := rdCells_some hl
    simp only [ha, Result.andThen_ok, if_true, Sem.run_bind, szk_run hn]
    have e1 := loadCellsFrom_run (P := P) (off := off) hb n 0 #[] (by simpa using hle)
    unfold loadCells
    rw [e1]
    simp
  · simp only [rdV] at hv
    have hc : w.cell? ⟨b, off, none⟩ = some v := by simp [World.cell?, hb]; simpa using hv
    simp [ha, load, Sem.run, hc]
theorem resK_sound {n : Nat} {ρ : Env} {a : Act} (r : Rel n ρ a) {w : World} : ∀ (l : List ResultVar) (K : List Value → Asn) (h : PH), resK P l ρ K h → Sat h w →
    ∃ vs, (l.mapM fun | .tmp t => pure (a.tmps.getD t undef) | .cell x t => do loadVar t (← asAddr (a.tmps.getD x undef)) : Sem (List Value)).run P w = .ok vs w ∧ K vs h := by
  intro l
  induction l with
  | nil => intro K h k _; exact ⟨[], rfl, k⟩
  | cons x l ih =>
    intro K h k s
    cases x with
    | tmp t =>
      obtain ⟨vs, e, q⟩ := ih _ h k s
      refine ⟨ρ.get t :: vs, ?_, q⟩
      rw [List.mapM_cons, Sem.run_bind]
      simp only [Sem.run_pure, Result.andThen_ok, Sem.run_bind, e, r.2 t]
    | cell x t =>
      simp only [resK] at k
      cases hk : ldk P t with
      | none => simp only [hk] at k; exact k.elim
      | some kk =>
        simp only [hk] at k
        obtain ⟨b, off, tt, c, e, fz, v, hx, hb, hv, k⟩ := k
        obtain ⟨vs, e1, q⟩ := ih _ h k s
        refine ⟨v :: vs, ?_, q⟩
        rw [List.mapM_cons, Sem.run_bind]
        have e2 : (do loadVar t (← asAddr (a.tmps.getD x undef)) : Sem Value).run P w = .ok v w := by
          rw [r.2 x, hx]
          exact loadVar_run hk (s b _ hb) hv
        rw [e2]
        simp only [Result.andThen_ok, Sem.run_bind, e1, Sem.run_pure]
def kret (P : Program) (rs : List ResultVar) (K : Value → Asn) (ρ : Env) : Asn := resK P rs ρ fun vs => K (retV vs)
theorem results_run {fn : Func} {n : Nat} {ρ : Env} {a : Act} (r : Rel n ρ a) {w : World} {K : Value → Asn} {h : PH} (k : kret P fn.results.toList K ρ h) (s : Sat h w) :
    ∃ v, (results fn a.tmps).run P w = .ok v w ∧ K v h := by
  obtain ⟨vs, e, q⟩ := resK_sound r fn.results.toList _ h k s
  refine ⟨retV vs, ?_, q⟩
  unfold results
  rw [← Array.toArray_toList (xs := fn.results), List.mapM_toArray, map_eq_pure_bind, Sem.run_bind, Sem.run_bind]
  refine Eq.trans (congrArg (fun r : Result (List Value) => (r.andThen fun a w' => Sem.run P (pure a.toArray) w').andThen fun a w' => Sem.run P (pure (if h : a.size = 1 then a[0] else Value.tuple a)) w') e) ?_
  simp only [Result.andThen_ok, Sem.run_pure]
  congr 1
  match vs with
  | [] => rfl
  | [v] => rfl
  | _ :: _ :: _ => simp [retV]
theorem start_rel {args : List Value} {n : Nat} (h : args.length ≤ n) : Rel n (start args) { tmps := args.toArray ++ Array.replicate (n - args.toArray.size) undef, defers := [] } := by
  refine ⟨by simp; omega, fun t => ?_⟩
  have key : ∀ (l : List Value) (i : Nat), i ≤ t → (look t (.val undef) (startE i l)).get = l.getD (t - i) undef := by
    intro l
    induction l with
    | nil => intro i _; simp [startE, look, Slot.get]
    | cons v l ih =>
      intro i hi
      simp only [startE, look]
      cases hb : Nat.beq i t with
      | true =>
        have := Nat.eq_of_beq_eq_true hb
        subst this
        simp [Slot.get]
      | false =>
        have hne := Nat.ne_of_beq_eq_false hb
        have : t - i = (t - (i + 1)) + 1 := by omega
        rw [this]
        simp only [List.getD_cons_succ]
        exact ih (i + 1) (by omega)
  have e : (start args).get t = args.getD t undef := by
    have := key args 0 (Nat.zero_le _)
    rw [Nat.sub_zero] at this
    exact this
  rw [e]
  simp only [Array.getD_eq_getD_getElem?, List.getD_eq_getElem?_getD]
  rw [Array.getElem?_append]
  by_cases ht : t < args.length
  · simp [ht]
  · have h1 : args[t]? = none := List.getElem?_eq_none (by omega)
    simp only [List.size_toArray, ht, if_false, h1]
    rw [Array.getElem?_replicate]
    split <;> rfl
def enters (P : Program) (f : FuncId) (fn : Func) : Prop := P.funcs[f]? = some fn ∧ (fn.name == "runtime.NumGoroutine") = false
theorem cl_of_vc {f : FuncId} {fn : Func} {c : Code} {args : List Value} {K : Value → Asn} {ann : Ann} {h : PH}
    (hf : P.funcs[f]? = some fn) (hname : (fn.name == "runtime.NumGoroutine") = false) (hb : fn.body = some c) (hle : Nat.ble args.length fn.ntmps = true) (hfit : fits fn.ntmps c = true)
    (v : vc P ann c (start args) (kret P fn.results.toList K) (fun _ _ => no) (kret P fn.results.toList K) h) : Cl P f args K h := by
  intro hF w d s q
  have hrun : (callFunc f args.toArray).run P w = .ok (.enter f args.toArray) w := by
    simp only [callFunc, Sem.run_bind, program, Sem.run, Result.andThen_ok, hf, hname, hb]
    rfl
  rw [hrun]
  refine calls_of_wp hf hb (wp_mono (vc_sound ann c _ _ _ _ _ h w (start_rel (Nat.le_of_ble_eq_true hle)) hfit v d s q) ?_)
  intro e a' w' p
  obtain ⟨p1, _, ρ', h', p3, p4, p5, p6, p7⟩ := p
  cases e with
  | normal =>
    obtain ⟨u, e1, k⟩ := results_run p3 p7 p5
    exact ⟨p1, u, e1, u, rfl, h', k, p4, p5, p6⟩
  | ret =>
    obtain ⟨u, e1, k⟩ := results_run p3 p7 p5
    exact ⟨p1, u, e1, u, rfl, h', k, p4, p5, p6⟩
  | exit i => exact p7.elim
  | _ => exact p7.elim
end
end Go.Sl
