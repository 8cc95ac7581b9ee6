/- Part 3 of the proof: definitions and lemmas that the last text builds on. -/
import Derived.Test.YtndanmhgbfjinaaQd2
import Derived.Laws.StructEq
import Derived.Laws.BytesString
import Derived.KernelRfl
set_option linter.all false
set_option linter.unusedVariables false
set_option linter.unusedSimpArgs false
namespace Go.Sl
open Go
def roPart (h : PH) : PH := fun b => match h b with | some (false, o) => some (false, o) | _ => none
theorem roPart_some {h : PH} {b : Nat} {x : Bool × Obj} (e : roPart h b = some x) : h b = some x ∧ x.1 = false := by
  unfold roPart at e
  split at e
  · rename_i o ho; cases e; exact ⟨ho, rfl⟩
  · cases e
theorem roPart_of {h : PH} {b : Nat} {o : Obj} (e : h b = some (false, o)) : roPart h b = some (false, o) := by simp [roPart, e]
theorem roPart_le (h : PH) : Le (roPart h) h := fun _ _ e => (roPart_some e).1
theorem roPart_dj (h : PH) : Dj h (roPart h) := fun b x y hx hy => by
  obtain ⟨a, f⟩ := roPart_some hy
  rw [hx] at a; cases a; exact ⟨rfl, f⟩
class RoA (A : Asn) : Prop where
  mono : ∀ {h k : PH}, Le h k → A h → A k
  ro : ∀ {h : PH}, A h → A (roPart h)
instance (priority := 500) {A : Asn} [r : RoA A] : Per A := ⟨fun h a => ⟨roPart h, roPart_le h, fun _ _ e => (roPart_some e).2, r.ro a⟩⟩
instance {p : Prop} : RoA (fun _ => p) := ⟨fun _ a => a, fun a => a⟩
instance {A B : Asn} [a : RoA A] [b : RoA B] : RoA (fun h => A h ∧ B h) := ⟨fun l x => ⟨a.mono l x.1, b.mono l x.2⟩, fun x => ⟨a.ro x.1, b.ro x.2⟩⟩
instance {X : Type} {A : X → Asn} [a : ∀ x, RoA (A x)] : RoA (fun h => ∃ x, A x h) := ⟨fun l ⟨x, y⟩ => ⟨x, (a x).mono l y⟩, fun ⟨x, y⟩ => ⟨x, (a x).ro y⟩⟩
instance {X : Type} {p : X → Prop} {A : X → Asn} [a : ∀ x, RoA (A x)] : RoA (fun h => ∀ x, p x → A x h) := ⟨fun l y x hx => (a x).mono l (y x hx), fun y x hx => (a x).ro (y x hx)⟩
instance {b : Nat} {cs : List Value} : RoA (ro b cs) := ⟨fun l ⟨e, fz, hb⟩ => ⟨e, fz, l _ _ hb⟩, fun ⟨e, fz, hb⟩ => ⟨e, fz, roPart_of hb⟩⟩
instance {size : Nat} {v : Value} {n : Nat} {cs : List Value} : RoA (RoRow size v n cs) where
  mono l a := by
    rcases a with a | ⟨b, off, cap, pre, post, e, fz, h1, hb, h2⟩
    · exact .inl a
    · exact .inr ⟨b, off, cap, pre, post, e, fz, h1, l _ _ hb, h2⟩
  ro a := by
    rcases a with a | ⟨b, off, cap, pre, post, e, fz, h1, hb, h2⟩
    · exact .inl a
    · exact .inr ⟨b, off, cap, pre, post, e, fz, h1, roPart_of hb, h2⟩
structure Dt (α : Type) (size : Nat) where
  rep : α → List Value → Asn
  ro : ∀ x cs, RoA (rep x cs)
  len : ∀ {x cs h}, rep x cs h → cs.length = size
  ones : ∀ {x cs h}, rep x cs h → cs.all one = true
instance {α : Type} {size : Nat} {D : Dt α size} {x : α} {cs : List Value} : RoA (D.rep x cs) := D.ro x cs
def Dt.of {α : Type} {size : Nat} (f : α → List Value) (h1 : ∀ x, (f x).length = size) (h2 : ∀ x, (f x).all one = true) : Dt α size :=
  ⟨fun x cs _ => cs = f x, fun _ _ => inferInstance, fun e => by rw [e]; exact h1 _, fun e => by rw [e]; exact h2 _⟩
structure El (α : Type) (size : Nat) where
  x : α
  cs : List Value
  len : cs.length = size
  ones : cs.all one = true
instance {α : Type} {size : Nat} : Sized (fun e : El α size => e.cs) size := ⟨fun e => e.len, fun e => e.ones⟩
abbrev elF {α : Type} {size : Nat} : El α size → List Value := fun e => e.cs
def AllR {α : Type} {size : Nat} (D : Dt α size) (es : List (El α size)) : Asn := fun h => ∀ e, e ∈ es → D.rep e.x e.cs h
instance {α : Type} {size : Nat} {D : Dt α size} {es : List (El α size)} : RoA (AllR D es) := ⟨fun l a e he => (D.ro _ _).mono l (a e he), fun a e he => (D.ro _ _).ro (a e he)⟩
def LV {α : Type} {size : Nat} (D : Dt α size) (v : Value) (xs : List α) : Asn := fun h => ∃ es : List (El α size), es.map El.x = xs ∧ RoRow size v es.length (flat elF es) h ∧ AllR D es h
def OV {α : Type} {size : Nat} (D : Dt α size) (v : Value) (xs : List α) : Asn := fun h => ∃ es : List (El α size), es.map El.x = xs ∧ Row size v es.length (flat elF es) h ∧ AllR D es h
instance {α : Type} {size : Nat} {D : Dt α size} {v : Value} {xs : List α} : RoA (LV D v xs) where
  mono l := fun ⟨es, e, r, a⟩ => ⟨es, e, RoA.mono l r, RoA.mono l a⟩
  ro := fun ⟨es, e, r, a⟩ => ⟨es, e, RoA.ro r, RoA.ro a⟩
def Dt.list {α : Type} {size : Nat} (D : Dt α size) : Dt (List α) 1 :=
  ⟨fun xs cs h => ∃ v, cs = [v] ∧ one v = true ∧ LV D v xs h, fun _ _ => inferInstance, fun ⟨v, e, _⟩ => by rw [e]; rfl, fun ⟨v, e, o, _⟩ => by rw [e]; simp [o]⟩
section
variable {P : Program} {l R : List Asn} {K : Value → Asn} {α : Type} {size : Nat}
theorem one_of_row {n : Nat} {v : Value} {cs : List Value} {h : PH} (r : RoRow size v n cs h) : one v = true := by
  rcases r with ⟨⟨_, _, rfl, _⟩, _⟩ | ⟨_, _, _, _, _, _, _, rfl, _⟩ <;> rfl
theorem rep_list {D : Dt α size} {v : Value} {xs : List α} {h : PH} (a : LV D v xs h) : D.list.rep xs [v] h := by
  obtain ⟨es, e, r, q⟩ := a
  exact ⟨v, rfl, one_of_row r, es, e, r, q⟩
theorem Star.dupRo {A : Asn} {h : PH} (a : A h) [r : RoA A] {l : List Asn} (s : Star l h) : Star (A :: l) h := ⟨roPart h, h, (roPart_dj h).symm, Le.un (roPart_le h) (Le.refl h), r.ro a, s⟩
theorem star1 {A : Asn} {h : PH} (a : A h) : Star [A] h := ⟨h, emp, Dj.emp h, by rw [un_emp]; exact Le.refl h, a, trivial⟩
theorem Ent.add {φ A : Asn} [r : RoA A] (a : ∀ h, Star l h → A h) (e : Ent (A :: l) φ) : Ent l φ := fun h s => e h (Star.dupRo (a h s) s)
theorem Ent.pure {φ : Asn} {p : Prop} (e : p → Ent l φ) : Ent ((fun _ => p) :: l) φ := fun h ⟨_, _, d, le, hp, r⟩ => e hp h (r.mono ((Le.right d).trans le))
theorem Ent.of {φ : Asn} {p : Prop} (hp : ∀ h, Star l h → p) (e : p → Ent l φ) : Ent l φ := fun h s => e (hp h s) h s
theorem has_here {A : Asn} [r : RoA A] : ∀ h, Star (A :: R) h → A h := fun h ⟨_, _, _, le, a, _⟩ => r.mono ((Le.left _ _).trans le) a
theorem has_there {A B : Asn} [r : RoA A] (x : ∀ h, Star R h → A h) : ∀ h, Star (B :: R) h → A h := fun h ⟨_, h2, d, le, _, s⟩ => r.mono ((Le.right d).trans le) (x h2 s)
theorem OV.open {D : Dt α size} {v : Value} {xs : List α} (h : PH) (a : OV D v xs h) : ∃ es : List (El α size), es.map El.x = xs ∧ Star [Rw elF v es, AllR D es] h :=
  let ⟨es, e, r, q⟩ := a
  ⟨es, e, h, roPart h, roPart_dj h, Le.un (Le.refl h) (roPart_le h), r, star1 (RoA.ro q)⟩
theorem RowP.up {p : TypeId → Prop} {n : Nat} {v : Value} {cs : List Value} {h k : PH} (le : Le h k) (a : RowP p size v n cs h) : RowP p size v n cs k := by
  rcases a with a | ⟨b, cap, post, e, a1, a2, a3⟩
  · exact .inl a
  · exact .inr ⟨b, cap, post, e, a1, le _ _ a2, a3⟩
theorem OV.close {D : Dt α size} {v : Value} {es : List (El α size)} {xs : List α} (e : es.map El.x = xs) (h : PH) (s : Star [Rw elF v es, AllR D es] h) : OV D v xs h := by
  obtain ⟨h1, h2, d, le, a, k1, k2, d', le', b, _⟩ := s
  exact ⟨es, e, RowP.up ((Le.left _ _).trans le) a, RoA.mono (((Le.left _ _).trans le').trans ((Le.right d).trans le)) b⟩
theorem OV.up {D : Dt α size} {v : Value} {xs : List α} {h k : PH} (le : Le h k) (a : OV D v xs h) : OV D v xs k := let ⟨es, e, r, q⟩ := a; ⟨es, e, RowP.up le r, RoA.mono le q⟩
theorem Pick.ro {A : Asn} (x : ∀ h, Star l h → A h) [RoA A] : Pick l A l := fun h s => Star.dupRo (x h s) s
def HasD (l : List Asn) (D : Dt α size) (v : Value) (xs : List α) : Prop := ∀ h, Star l h → LV D v xs h ∨ OV D v xs h
class HasDC (l : List Asn) (v : Value) {α : outParam Type} {size : outParam Nat} (D : outParam (Dt α size)) (xs : outParam (List α)) : Prop where has : HasD l D v xs
instance (priority := 1100) {D : Dt α size} {v : Value} {xs : List α} : HasDC (LV D v xs :: R) v D xs := ⟨fun h s => .inl (has_here h s)⟩
instance (priority := 1100) {D : Dt α size} {v : Value} {xs : List α} : HasDC (OV D v xs :: R) v D xs := ⟨fun h ⟨_, _, _, le, a, _⟩ => .inr (a.up ((Le.left _ _).trans le))⟩
instance {A : Asn} {D : Dt α size} {v : Value} {xs : List α} [x : HasDC R v D xs] : HasDC (A :: R) v D xs :=
  ⟨fun h ⟨_, h2, d, le, _, s⟩ => (x.has h2 s).imp (fun a => RoA.mono ((Le.right d).trans le) a) (fun a => a.up ((Le.right d).trans le))⟩
class PkOC (l : List Asn) (v : Value) {α : outParam Type} {size : outParam Nat} (D : outParam (Dt α size)) (xs : outParam (List α)) (R : outParam (List Asn)) : Prop where pick : Pick l (OV D v xs) R
instance (priority := 1100) {D : Dt α size} {v : Value} {xs : List α} : PkOC (OV D v xs :: R) v D xs R := ⟨.here⟩
instance {A : Asn} {D : Dt α size} {v : Value} {xs : List α} {S : List Asn} [x : PkOC R v D xs S] : PkOC (A :: R) v D xs (A :: S) := ⟨.there x.pick⟩
theorem HasD.row {D : Dt α size} {v : Value} {xs : List α} (x : HasD l D v xs) {h : PH} (s : Star l h) : ∃ es : List (El α size), es.map El.x = xs ∧ AllR D es h ∧
    ((Z0 v ∧ es.length = 0 ∧ flat elF es = []) ∨ ∃ b off cap pre post t e fz, v = .slice (some ⟨b, off, none⟩) es.length cap ∧ h b = some (t, .cells (pre ++ flat elF es ++ post).toArray e fz) ∧ pre.length = off ∧ (flat elF es).length = es.length * size ∧ es.length ≤ cap) := by
  rcases x h s with ⟨es, e, r, q⟩ | ⟨es, e, r, q⟩
  · exact ⟨es, e, q, HasR.ro h (Star.dupRo (A := RoRow size v es.length (flat elF es)) r s)⟩
  · exact ⟨es, e, q, HasR.row h (R := []) (star1 r)⟩
def RdK (cs : List Value) (o : Nat) (m : Option Nat) (K : Value → Asn) : Asn := fun h => ∃ u, rdV cs o m = some u ∧ K u h
theorem rdk {cs : List Value} {o : Nat} {m : Option Nat} {u : Value} (e : rdV cs o m = some u) (q : Ent l (K u)) : Ent l (RdK cs o m K) := fun h s => ⟨u, e, q h s⟩
theorem HasR.one_h {n : Nat} {v : Value} {cs : List Value} {h : PH} (r : (Z0 v ∧ n = 0 ∧ cs = []) ∨ ∃ b off cap pre post t e fz, v = .slice (some ⟨b, off, none⟩) n cap ∧ h b = some (t, .cells (pre ++ cs ++ post).toArray e fz) ∧ pre.length = off ∧ cs.length = n * size ∧ n ≤ cap) :
    HasR [fun k => Le h k] size v n cs := fun k ⟨_, _, _, le, a, _⟩ => by
  rcases r with r | ⟨b, off, cap, pre, post, t, e, fz, h1, hb, h2⟩
  · exact .inl r
  · exact .inr ⟨b, off, cap, pre, post, t, e, fz, h1, le _ _ (un_some_left (a _ _ hb)), h2⟩
theorem oAtD {D : Dt α size} {v : Value} {xs : List α} [x : HasDC l v D xs] {k : IntKind} {i : Int} {m : Option Nat} (n : Nat) (hi : i = n) (h2 : n < xs.length)
    (q : ∀ y cs, xs[n]? = some y → Ent (D.rep y cs :: l) (RdK cs 0 m K)) : Ent l (O (idxV size v (.int k i)) fun a => Ld m a K) := fun h s => by
  obtain ⟨es, he, ha, r⟩ := x.has.row s
  have hl : n < es.length := by rw [← he, List.length_map] at h2; exact h2
  have hx : xs[n]? = some es[n].x := by rw [← he, List.getElem?_map, List.getElem?_eq_getElem hl]; rfl
  obtain ⟨u, hu, ku⟩ := q es[n].x es[n].cs hx h (Star.dupRo (ha _ (List.getElem_mem hl)) s)
  haveI : HasRC [fun k => Le h k] v size es.length (flat elF es) := ⟨HasR.one_h r⟩
  have := oIxL (l := [fun k => Le h k]) (v := v) (k := k) (i := i) (m := m) (u := u) (K := fun u' k' => u' = u) (by omega) (by omega) (by
    have := rd_fld (f := elF) (size := size) (l := es) (i := n) (o := 0) (m := m) (x := es[n]) (v := u) (List.getElem?_eq_getElem hl) hu
    simpa [hi] using this) (fun _ _ => rfl) h (star1 (Le.refl h))
  obtain ⟨a, ea, b, off, t, c, e, fz, v', h5, h6, h7, h8⟩ := this
  exact ⟨a, ea, b, off, t, c, e, fz, v', h5, h6, h7, by rw [h8]; exact ku⟩
theorem oAtFD {D : Dt α size} {v : Value} {xs : List α} [x : HasDC l v D xs] {k : IntKind} {i : Int} {m : Option Nat} {o : Nat} (n : Nat) (hi : i = n) (h2 : n < xs.length)
    (q : ∀ y cs, xs[n]? = some y → Ent (D.rep y cs :: l) (RdK cs o m K)) : Ent l (O (idxV size v (.int k i)) fun a => O (addV o a) fun c => Ld m c K) := fun h s => by
  obtain ⟨es, he, ha, r⟩ := x.has.row s
  have hl : n < es.length := by rw [← he, List.length_map] at h2; exact h2
  have hx : xs[n]? = some es[n].x := by rw [← he, List.getElem?_map, List.getElem?_eq_getElem hl]; rfl
  obtain ⟨u, hu, ku⟩ := q es[n].x es[n].cs hx h (Star.dupRo (ha _ (List.getElem_mem hl)) s)
  haveI : HasRC [fun k => Le h k] v size es.length (flat elF es) := ⟨HasR.one_h r⟩
  have := oIxFL (l := [fun k => Le h k]) (v := v) (k := k) (i := i) (m := m) (u := u) (o := o) (K := fun u' k' => u' = u) (by omega) (by omega) (by
    have := rd_fld (f := elF) (size := size) (l := es) (i := n) (o := o) (m := m) (x := es[n]) (v := u) (List.getElem?_eq_getElem hl) hu
    simpa [hi] using this) (fun _ _ => rfl) h (star1 (Le.refl h))
  obtain ⟨a, ea, c', ec, b, off, t, c, e, fz, v', h5, h6, h7, h8⟩ := this
  exact ⟨a, ea, c', ec, b, off, t, c, e, fz, v', h5, h6, h7, by rw [h8]; exact ku⟩
theorem oAtP {f : α → List Value} {g1 : ∀ x, (f x).length = size} {g2 : ∀ x, (f x).all one = true} {v : Value} {xs : List α} [x : HasDC l v (Dt.of f g1 g2) xs] {k : IntKind} {i : Int} {m : Option Nat} (n : Nat) (hi : i = n) (h2 : n < xs.length)
    (q : ∀ y, xs[n]? = some y → Ent l (RdK (f y) 0 m K)) : Ent l (O (idxV size v (.int k i)) fun a => Ld m a K) :=
  oAtD n hi h2 fun y cs hy => Ent.pure fun e => by subst e; exact q y hy
theorem oAtFP {f : α → List Value} {g1 : ∀ x, (f x).length = size} {g2 : ∀ x, (f x).all one = true} {v : Value} {xs : List α} [x : HasDC l v (Dt.of f g1 g2) xs] {k : IntKind} {i : Int} {m : Option Nat} {o : Nat} (n : Nat) (hi : i = n) (h2 : n < xs.length)
    (q : ∀ y, xs[n]? = some y → Ent l (RdK (f y) o m K)) : Ent l (O (idxV size v (.int k i)) fun a => O (addV o a) fun c => Ld m c K) :=
  oAtFD n hi h2 fun y cs hy => Ent.pure fun e => by subst e; exact q y hy
theorem oLenD {D : Dt α size} {v : Value} {xs : List α} [x : HasDC l v D xs] (q : Ent l (K (.int .i64 xs.length))) : Ent l (O (lenL v) K) := fun h s => by
  obtain ⟨es, he, ha, r⟩ := x.has.row s
  have hl := (HasR.len (HasR.one_h r) (star1 (Le.refl h))).1
  refine ⟨_, hl, ?_⟩
  have : es.length = xs.length := by rw [← he, List.length_map]
  rw [this]; exact q h s
theorem Shift.ovSeal {D : Dt α size} {v : Value} {xs : List α} : Shift (OV D v xs :: l) (LV D v xs :: l) := by
  rintro h ⟨h1, h2, d, le, ⟨es, e, r, q⟩, s⟩
  have st : Star (Rw elF v es :: AllR D es :: l) h := by
    refine ⟨h1, un (roPart h1) h2, (roPart_dj h1).un_right d, ?_, r, roPart h1, h2, d.mono (roPart_le h1) (Le.refl _), Le.refl _, RoA.ro q, s⟩
    exact Le.un ((Le.left _ _).trans le) (Le.un ((roPart_le h1).trans ((Le.left _ _).trans le)) ((Le.right d).trans le))
  obtain ⟨h', vs, k1, k2, d', le', a, j1, j2, d2, le2, b, s'⟩ := Shift.rowSeal h st
  refine ⟨h', vs, un k1 (roPart j1), j2, ?_, ?_, ⟨es, e, RoA.mono (Le.left _ _) a, RoA.mono (Le.right ?_) (RoA.ro b)⟩, s'⟩
  · refine Dj.un_left (d'.mono (Le.refl _) ((Le.right d2).trans le2)) (d2.mono (roPart_le _) (Le.refl _))
  · exact Le.un (Le.un ((Le.left _ _).trans le') ((roPart_le _).trans (((Le.left _ _).trans le2).trans ((Le.right d').trans le')))) (((Le.right d2).trans le2).trans ((Le.right d').trans le'))
  · exact d'.mono (Le.refl _) ((roPart_le _).trans ((Le.left _ _).trans le2))
theorem Shift.pick {A : Asn} (p : Pick l A R) : Shift l (A :: R) := fun h s => ⟨h, Vs.refl h, p h s⟩
class Vsb (K : Asn) : Prop where vsb : ∀ {h h' : PH}, Vs h h' → K h' → K h
theorem Ent.froze {φ : Asn} [k : Vsb φ] {D : Dt α size} {v : Value} {xs : List α} (p : Pick l (OV D v xs) R) (e : Ent (LV D v xs :: R) φ) : Ent l φ := fun h s => by
  obtain ⟨h', vs, s'⟩ := Shift.ovSeal h (p h s)
  exact k.vsb vs (e h' s')
instance {f : FuncId} {args : List Value} {K : Value → Asn} : Vsb (Cl P f args K) := ⟨fun v e => OpR.vs_pre v e⟩
instance {β : Type} {s : Sem β} {K : β → Asn} : Vsb (Runs P s K) := ⟨fun v e => Runs.vs_pre v e⟩
instance {X : Type} {v : Value} {res : X → Value} {φ : X → Prop} {post : X → List Asn} : Vsb (fun h => ∃ h', Vs h h' ∧ ∃ x, v = res x ∧ φ x ∧ Star (post x) h') := ⟨fun v ⟨h', v', q⟩ => ⟨h', v.trans v', q⟩⟩
theorem Shift.openLast {A B : Asn} (p : Pick l A R) (s : Shift (A :: R) (B :: R)) : Shift l (B :: R) := (Shift.pick p).trans s
theorem oNilD {φ : Asn} (D : Dt α size) (e : Ent (OV D (.slice none 0 0) ([] : List α) :: l) φ) : Ent l φ := fun h s =>
  e h ⟨emp, h, (Dj.emp h).symm, Le.un (fun _ _ e => by simp [emp] at e) (Le.refl _), ⟨[], rfl, row_nil _, fun e he => by cases he⟩, s⟩
theorem oNilL {φ : Asn} (D : Dt α size) (e : Ent (LV D (.slice none 0 0) ([] : List α) :: l) φ) : Ent l φ := fun h s =>
  e h ⟨emp, h, (Dj.emp h).symm, Le.un (fun _ _ e => by simp [emp] at e) (Le.refl _), ⟨[], rfl, .inl ⟨.nil, rfl, rfl⟩, fun e he => by cases he⟩, s⟩
theorem Ent.mk1 {φ : Asn} {b : Nat} {cs : List Value} (D : Dt α size) (y : α) (p : Pick l (cl b cs) R) (hr : ∀ h, Star R h → D.rep y cs h) (e : Ent (OV D (.slice (some ⟨b, 0, none⟩) 1 1) [y] :: R) φ) : Ent l φ := fun h s => by
  obtain ⟨h1, h2, d, le, a, r⟩ := p h s
  have hry := hr h2 r
  have hrow : Row size (.slice (some ⟨b, 0, none⟩) 1 1) 1 cs h1 := row_of_cl (by rw [D.len hry, Nat.one_mul]) _ a
  refine e h ⟨un h1 (roPart h2), h2, d.un_left (roPart_dj h2).symm, Le.un (Le.un ((Le.left _ _).trans le) ((roPart_le _).trans ((Le.right d).trans le))) ((Le.right d).trans le), ?_, r⟩
  refine ⟨[⟨y, cs, D.len hry, D.ones hry⟩], rfl, ?_, ?_⟩
  · show Row size _ 1 (cs ++ []) _
    rw [List.append_nil]; exact RowP.up (Le.left _ _) hrow
  · intro e he
    simp at he; subst he
    exact RoA.mono (Le.right (d.mono (Le.refl _) (roPart_le h2))) (RoA.ro hry)
theorem Ent.mk0 {φ : Asn} {b : Nat} (D : Dt α size) (p : Pick l (cl b []) R) (e : Ent (OV D (.slice (some ⟨b, 0, none⟩) 0 0) ([] : List α) :: R) φ) : Ent l φ := fun h s => by
  obtain ⟨h1, h2, d, le, a, r⟩ := p h s
  exact e h ⟨h1, h2, d, le, ⟨[], rfl, (row_of_cl (size := size) (n := 0) (cs := []) (by simp) _ a), fun e he => by cases he⟩, r⟩
theorem oPushD {T T2 ty e b by_ : Nat} {d : TypeDesc} {s : Value} {D : Dt α size} {xs : List α} {new : List Value} {z : Value}
    [p : PkOC l s D xs R] [hT : UndC P T (.slice e)] [h2 : UndC P T2 d] [hi : InfC P e size by_ z] [nw : HasC R b new]
    (hs : Nat.ble 1 size = true) (hd : isIntD d = false) (hz : z.cells.size = size) (hpos : by_ ≠ 0) (y : α) (hr : ∀ h, Star R h → D.rep y new h) (hb : (2 * (xs.length + 1) + 192) * by_ ≤ 281474976710656)
    (q : ∀ v, Ent (OV D v (xs ++ [y]) :: R) (K v)) : Ent l (Runs P (Builtin.append_ #[T, T2] ty #[s, .slice (some ⟨b, 0, none⟩) 1 1]) K) := by
  refine Ent.openX p.pick OV.open fun es he => ?_
  dsimp only [List.cons_append, List.nil_append]
  intro h st
  have hry : D.rep y new h := has_there (has_there hr) h st
  let ey : El α size := ⟨y, new, D.len hry, D.ones hry⟩
  refine oPush (s := s) (f := elF) (xs := es) hs trivial hd hz ey rfl hpos (by rw [← he, List.length_map] at hb; exact hb) (fun v => ?_) h st
  have e2 : (es ++ [ey]).map El.x = xs ++ [y] := by rw [List.map_append, he]; rfl
  refine Ent.add (A := AllR D (es ++ [ey])) (fun h s => ?_) ?_
  · obtain ⟨_, h2, d, le, _, k1, k2, d', le', a, r⟩ := s
    intro e he
    rcases List.mem_append.1 he with he | he
    · exact RoA.mono (((Le.left _ _).trans le').trans ((Le.right d).trans le)) (a e he)
    · simp at he; subst he
      exact RoA.mono ((Le.right d').trans (le'.trans ((Le.right d).trans le))) (hr k2 r)
  · refine Ent.close (m := [Rw elF v (es ++ [ey]), AllR D (es ++ [ey])]) (R := AllR D es :: R) (.cons P1 (.cons P0 .nil)) (OV.close e2) ?_
    exact Ent.perm (l' := OV D v (xs ++ [y]) :: []) (R := AllR D es :: R) (.cons P0 .nil) (fun h s => q v h (by
      obtain ⟨h1, h2, d, le, a, k1, k2, d', le', _, r⟩ := s
      exact ⟨h1, k2, d.mono (Le.refl _) ((Le.right d').trans le'), Le.un ((Le.left _ _).trans le) (((Le.right d').trans le').trans ((Le.right d).trans le)), a, r⟩))
theorem LV.one {D : Dt α size} {v : Value} {xs : List α} {h : PH} (a : LV D v xs h) : one v = true := let ⟨_, _, r, _⟩ := a; one_of_row r
theorem LV.up {D : Dt α size} {v : Value} {xs : List α} {h k : PH} (le : Le h k) (a : LV D v xs h) : LV D v xs k := RoA.mono le a
theorem picks_drop3 {A B C : Asn} : ∀ (L : List Asn), Picks (A :: B :: C :: L) L [A, B, C]
  | [] => .nil
  | _ :: L => .cons (.there (.there (.there .here))) (picks_drop3 L)
theorem oCatD {T T2 ty e by_ : Nat} {d : TypeDesc} {s x : Value} {D : Dt α size} {xs ys : List α} {z : Value}
    [p : PkOC l s D xs R] [hT : UndC P T (.slice e)] [h2 : UndC P T2 d] [hi : InfC P e size by_ z] (nw : ∀ h, Star R h → LV D x ys h)
    (hs : Nat.ble 1 size = true) (hd : isIntD d = false) (hz : z.cells.size = size) (hpos : by_ ≠ 0) (hb : (2 * (xs.length + ys.length) + 192) * by_ ≤ 281474976710656)
    (q : ∀ v, Ent (OV D v (xs ++ ys) :: R) (K v)) : Ent l (Runs P (Builtin.append_ #[T, T2] ty #[s, x]) K) := by
  refine Ent.openX p.pick OV.open fun es he => ?_
  dsimp only [List.cons_append, List.nil_append]
  intro h st
  obtain ⟨es2, he2, r2, q2⟩ := has_there (has_there nw) h st
  have st2 : Star (Rr elF x es2 :: AllR D es2 :: Rw elF s es :: AllR D es :: R) h := Star.dupRo (A := Rr elF x es2) r2 (Star.dupRo (A := AllR D es2) q2 st)
  refine (?_ : Ent (Rr elF x es2 :: AllR D es2 :: Rw elF s es :: AllR D es :: R) _) h st2
  refine oCat (s := s) (x := x) (f := elF) (xs := es) (ys := es2) hs trivial hd hz hpos (by rw [← he, ← he2, List.length_map, List.length_map] at hb; exact hb) (fun v => ?_)
  have e2 : (es ++ es2).map El.x = xs ++ ys := by rw [List.map_append, he, he2]
  refine Ent.add (A := AllR D (es ++ es2)) (fun h s => ?_) ?_
  · have a1 : AllR D es2 h := has_there (has_there has_here) h s
    have a2 : AllR D es h := has_there (has_there (has_there has_here)) h s
    intro e he
    rcases List.mem_append.1 he with he | he
    · exact a2 e he
    · exact a1 e he
  · refine Ent.close (m := [Rw elF v (es ++ es2), AllR D (es ++ es2)]) (.cons P1 (.cons P0 .nil)) (OV.close e2) ?_
    exact Ent.perm (l' := OV D v (xs ++ ys) :: R) (R := _) (.cons P0 (picks_drop3 _)) (fun h s => q v h s.drop_right)
theorem oSetD {v : Value} {D : Dt α size} {xs : List α} [x : PkOC l v D xs R] {k : IntKind} {i : Int} {u : Value} (hs : Nat.ble 1 size = true) (n : Nat) (hi : i = n) (h2 : n < xs.length) (y : α) (hr : ∀ h, Star R h → D.rep y u.cells.toList h)
    (q : Ent (OV D v (xs.set n y) :: R) (K undef)) : Ent l (O (idxV size v (.int k i)) fun a => St size a u K) := by
  refine Ent.openX x.pick OV.open fun es he => ?_
  dsimp only [List.cons_append, List.nil_append]
  intro h st
  have hry : D.rep y u.cells.toList h := has_there (has_there hr) h st
  let ey : El α size := ⟨y, u.cells.toList, D.len hry, D.ones hry⟩
  have hl : n < es.length := by rw [← he, List.length_map] at h2; exact h2
  refine oSet (v := v) (f := elF) (xs := es) hs ey (by omega) (by omega) rfl ?_ h st
  have hn : i.toNat = n := by omega
  rw [hn]
  have e2 : (es.set n ey).map El.x = xs.set n y := by rw [List.map_set, he]
  refine Ent.add (A := AllR D (es.set n ey)) (fun h s => ?_) ?_
  · have a2 : AllR D es h := has_there has_here h s
    have a3 : D.rep y u.cells.toList h := has_there (has_there hr) h s
    intro e he
    rcases List.mem_or_eq_of_mem_set he with he | rfl
    · exact a2 e he
    · exact a3
  · refine Ent.close (m := [Rw elF v (es.set n ey), AllR D (es.set n ey)]) (.cons P1 (.cons P0 .nil)) (OV.close e2) ?_
    exact Ent.perm (l' := OV D v (xs.set n y) :: []) (R := _) (.cons P0 .nil) (fun h s => q h (by
      obtain ⟨h1, h2, d, le, a, k1, k2, d', le', _, r⟩ := s
      exact ⟨h1, k2, d.mono (Le.refl _) ((Le.right d').trans le'), Le.un ((Le.left _ _).trans le) (((Le.right d').trans le').trans ((Le.right d).trans le)), a, r⟩))
theorem oCutD {D : Dt α size} {v : Value} {xs : List α} (x : ∀ h, Star l h → LV D v xs h) {lo' hi' : Option Value} (lo hi : Nat) (h1 : lo ≤ hi) (h2 : hi ≤ xs.length)
    (hlo : (match lo' with | some x => bndV x hi | none => some 0) = some lo) (hhi : ∀ c, xs.length ≤ c → (match hi' with | some x => bndV x c | none => some xs.length) = some hi)
    (q : ∀ u, Ent (LV D u ((xs.take hi).drop lo) :: l) (K u)) : Ent l (O (slcV size v lo' hi' none) K) := fun h s => by
  obtain ⟨es, he, r, a⟩ := x h s
  have hl : es.length = xs.length := by rw [← he, List.length_map]
  obtain ⟨u, hu, ru⟩ := ro_cut (f := elF) (xs := es) rfl r h1 (by omega) lo' hi' hlo (by rw [hl]; exact hhi)
  refine ⟨u, hu, q u h (Star.dupRo (A := LV D u ((xs.take hi).drop lo)) ⟨(es.take hi).drop lo, by rw [List.map_drop, List.map_take, he], ru, fun e he => a e (List.mem_of_mem_take (List.mem_of_mem_drop he))⟩ s)⟩
theorem Ent.mkN {φ : Asn} {b n : Nat} {cs : List Value} (D : Dt α size) (y : α) (p : Pick l (cl b (rep cs n)) R) (hr : ∀ h, D.rep y cs h) (e : Ent (OV D (.slice (some ⟨b, 0, none⟩) n n) (List.replicate n y) :: R) φ) : Ent l φ := fun h s => by
  obtain ⟨h1, h2, d, le, a, r⟩ := p h s
  let ey : El α size := ⟨y, cs, D.len (hr h), D.ones (hr h)⟩
  have hf : ∀ n, flat elF (List.replicate n ey) = rep cs n := by
    intro n
    induction n with
    | zero => rfl
    | succ n ih => rw [List.replicate_succ]; show cs ++ flat elF _ = cs ++ rep cs n; rw [ih]
  refine e h ⟨h1, h2, d, le, ⟨List.replicate n ey, by rw [List.map_replicate], ?_, fun e he => ?_⟩, r⟩
  · rw [List.length_replicate, hf]
    exact row_of_cl (by rw [← hf, flat_len, List.length_replicate]) _ a
  · rw [List.eq_of_mem_replicate he]; exact hr h1
theorem fold_take {S : Type} {step : S → α → S} {s0 : S} {xs : List α} {i : Nat} {y : α} (h : xs[i]? = some y) : (xs.take (i + 1)).foldl step s0 = step ((xs.take i).foldl step s0) y := by
  obtain ⟨hlt, e⟩ := List.getElem?_eq_some_iff.1 h
  rw [List.take_succ_eq_append_getElem hlt, List.foldl_append, e]; rfl
theorem map_take {β : Type} {g : α → β} {xs : List α} {i : Nat} {y : α} (h : xs[i]? = some y) : (xs.take (i + 1)).map g = (xs.take i).map g ++ [g y] := by
  obtain ⟨hlt, e⟩ := List.getElem?_eq_some_iff.1 h
  rw [List.take_succ_eq_append_getElem hlt, List.map_append, e]; rfl
end
end Go.Sl
namespace Go.Sl
open Go
section
variable {P : Program} {l R : List Asn} {K : Value → Asn}
theorem oLsT {k : IntKind} {x y : Int} (h : x < y) (q : Ent l (K (.bool true))) : Ent l (O (binV .lss (.int k x) (.int k y)) K) := ent_O (by show (if k = k then arI .lss k x y else none) = _; rw [if_pos rfl]; simp [arI, cmpI, h]) q
theorem oLsF {k : IntKind} {x y : Int} (h : ¬ x < y) (q : Ent l (K (.bool false))) : Ent l (O (binV .lss (.int k x) (.int k y)) K) := ent_O (by show (if k = k then arI .lss k x y else none) = _; rw [if_pos rfl]; simp [arI, cmpI]; omega) q
theorem oLeT {k : IntKind} {x y : Int} (h : x ≤ y) (q : Ent l (K (.bool true))) : Ent l (O (binV .leq (.int k x) (.int k y)) K) := ent_O (by show (if k = k then arI .leq k x y else none) = _; rw [if_pos rfl]; simp [arI, cmpI, h]) q
theorem oLeF {k : IntKind} {x y : Int} (h : ¬ x ≤ y) (q : Ent l (K (.bool false))) : Ent l (O (binV .leq (.int k x) (.int k y)) K) := ent_O (by show (if k = k then arI .leq k x y else none) = _; rw [if_pos rfl]; simp [arI, cmpI]; omega) q
theorem oGtT {k : IntKind} {x y : Int} (h : x > y) (q : Ent l (K (.bool true))) : Ent l (O (binV .gtr (.int k x) (.int k y)) K) := ent_O (by show (if k = k then arI .gtr k x y else none) = _; rw [if_pos rfl]; simp [arI, cmpI]; omega) q
theorem oGtF {k : IntKind} {x y : Int} (h : ¬ x > y) (q : Ent l (K (.bool false))) : Ent l (O (binV .gtr (.int k x) (.int k y)) K) := ent_O (by show (if k = k then arI .gtr k x y else none) = _; rw [if_pos rfl]; simp [arI, cmpI]; omega) q
theorem oGeT {k : IntKind} {x y : Int} (h : x ≥ y) (q : Ent l (K (.bool true))) : Ent l (O (binV .geq (.int k x) (.int k y)) K) := ent_O (by show (if k = k then arI .geq k x y else none) = _; rw [if_pos rfl]; simp [arI, cmpI]; omega) q
theorem oGeF {k : IntKind} {x y : Int} (h : ¬ x ≥ y) (q : Ent l (K (.bool false))) : Ent l (O (binV .geq (.int k x) (.int k y)) K) := ent_O (by show (if k = k then arI .geq k x y else none) = _; rw [if_pos rfl]; simp [arI, cmpI]; omega) q
theorem oEqT {k : IntKind} {x y : Int} (h : x = y) (q : Ent l (K (.bool true))) : Ent l (O (binV .eql (.int k x) (.int k y)) K) := oEq (by rw [decide_eq_true h]; exact q)
theorem oEqF {k : IntKind} {x y : Int} (h : ¬ x = y) (q : Ent l (K (.bool false))) : Ent l (O (binV .eql (.int k x) (.int k y)) K) := oEq (by rw [decide_eq_false h]; exact q)
theorem oNeT {k : IntKind} {x y : Int} (h : ¬ x = y) (q : Ent l (K (.bool true))) : Ent l (O (binV .neq (.int k x) (.int k y)) K) := oNe (by rw [decide_eq_true h]; exact q)
theorem oNeF {k : IntKind} {x y : Int} (h : x = y) (q : Ent l (K (.bool false))) : Ent l (O (binV .neq (.int k x) (.int k y)) K) := oNe (by rw [decide_eq_false (by simpa using h)]; exact q)
theorem oLW {n b : Nat} {cs : List Value} [x : HasC l b cs] (h : cs.length = n) (q : Ent l (K (.agg cs.toArray))) : Ent l (Ld (some n) (.pointer (some ⟨b, 0, none⟩)) K) := by
  subst h
  refine oL ?_ q
  simp [rdV, rdCells]
theorem rdkW {n : Nat} {cs : List Value} (h : cs.length = n) (q : Ent l (K (.agg cs.toArray))) : Ent l (RdK cs 0 (some n) K) := by
  subst h
  refine rdk ?_ q
  simp [rdV, rdCells]
theorem wr_all : ∀ (l c : List Value) (k : Nat) (a : List Value), c.length = l.length → k = a.length → wrCells (a ++ c) k l = a ++ l := by
  intro l
  induction l with
  | nil => intro c k a h _; cases c <;> simp_all [wrCells]
  | cons v l ih =>
    intro c k a h hk
    cases c with
    | nil => simp at h
    | cons u c =>
      subst hk
      simp only [wrCells]
      have e : (a ++ u :: c).set a.length v = (a ++ [v]) ++ c := by simp
      rw [e, ih c (a.length + 1) (a ++ [v]) (by simpa using h) (by simp)]
      simp
theorem oSW {n b : Nat} {cs cs' : List Value} [x : PkC l b cs R] (h1 : cs.length = n) (h2 : cs'.length = n) (h3 : cs'.all one = true) (q : Ent (cl b cs' :: R) (K undef)) : Ent l (St n (.pointer (some ⟨b, 0, none⟩)) (.agg cs'.toArray) K) := by
  refine oS (by simpa [Value.cells] using h2) (Nat.ble_eq_true_of_le (by omega)) (by simpa [Value.cells] using h3) ?_ q
  have := wr_all cs' cs 0 [] (by omega) rfl
  simpa [Value.cells] using this
theorem oExt {i : Nat} {vs : List Value} {v : Value} (e : vs[i]? = some v) (q : Ent l (K v)) : Ent l (O (extV i (.tuple vs.toArray)) K) := ent_O (by simpa [extV] using e) q
theorem isO {o : Option Value} (q : Ent l (O o K)) : Ent l (O o K) := q
theorem oAgg {z cs : List Value} {w : List (Nat × Nat × Value)} (e : bldV z w = some cs) (q : Ent l (K (.agg cs.toArray))) : Ent l (O (aggO (bldV z w)) K) := ent_O (by rw [e]; rfl) q
theorem oBS {t : TypeId} {n : Nat} {z c : List Value} {w : List (Nat × Nat × Value)} (e : bldV z w = some c) (q : ∀ b, Ent (cl b c :: l) (K (.slice (some ⟨b, 0, none⟩) n n))) : Ent l (BS t (bldV z w) n K) := ent_BS e q
theorem str_eq (a b : ByteArray) : (a.toList == b.toList) = decide (a = b) := by
  rw [ByteArray.toList_eq, ByteArray.toList_eq]
  by_cases h : a = b
  · subst h; simp
  · rw [decide_eq_false h, beq_eq_false_iff_ne]
    intro e
    exact h (ByteArray.ext (Array.toList_inj.1 e))
theorem oCatS {a b : ByteArray} (h : a.size + b.size ≤ 9223372036854775807) (q : Ent l (K (.string (a ++ b)))) : Ent l (O (binV .add (.string a) (.string b)) K) := ent_O (by
  have hm : IntKind.i64.max = 9223372036854775807 := rfl
  show (if ((a.size + b.size : Nat) : Int) > IntKind.i64.max then none else some (Value.string (a ++ b))) = _
  rw [if_neg (by rw [hm]; omega)]) q
theorem oEqS {a b : ByteArray} (q : Ent l (K (.bool (decide (a = b))))) : Ent l (O (binV .eql (.string a) (.string b)) K) := ent_O (by show some (Value.bool (a.toList == b.toList)) = _; rw [str_eq]) q
theorem oNeS {a b : ByteArray} (q : Ent l (K (.bool (decide (a ≠ b))))) : Ent l (O (binV .neq (.string a) (.string b)) K) := ent_O (by show some (Value.bool !(a.toList == b.toList)) = _; rw [str_eq]; congr 2; by_cases h : a = b <;> simp [h]) q
theorem oCutS {s : ByteArray} {lo' hi' : Option Value} (lo hi : Nat) (h1 : lo ≤ hi) (h2 : hi ≤ s.size) (hlo : (match lo' with | some x => bndV x hi | none => some 0) = some lo) (hhi : (match hi' with | some x => bndV x s.size | none => some s.size) = some hi)
    (q : Ent l (K (.string (s.extract lo hi)))) : Ent l (O (slcS (.string s) lo' hi') K) := ent_O (by
  simp only [slcS]
  cases hi' <;> cases lo' <;> dsimp only at hlo hhi ⊢ <;> first | rw [hhi, Option.bind_some] | rw [Option.bind_some]
  all_goals first | rw [hlo, Option.bind_some] | rw [Option.bind_some]
  all_goals first | rfl | (cases hhi; cases hlo; rfl) | (cases hlo; rfl) | (cases hhi; rfl)) q
theorem oByte {s : ByteArray} {k : IntKind} {i : Int} (n : Nat) (hi : i = n) (h : n < s.size) (q : Ent l (K (.int .u8 (s[n]).toNat))) : Ent l (O (sidxV (.string s) (.int k i)) K) := ent_O (by
  subst hi
  simp only [sidxV]
  rw [if_pos (by omega)]
  simp [h]) q
theorem isSt {n : Nat} {x v : Value} (q : Ent l (St n x v K)) : Ent l (St n x v K) := q
theorem isLd {m : Option Nat} {x : Value} (q : Ent l (Ld m x K)) : Ent l (Ld m x K) := q
theorem isVB {v : Value} {x y : Asn} (q : Ent l (VB v x y)) : Ent l (VB v x y) := q
theorem isAnd {x y : Asn} (q : Ent l (And2 x y)) : Ent l (And2 x y) := q
theorem isRdK {cs : List Value} {o : Nat} {m : Option Nat} (q : Ent l (RdK cs o m K)) : Ent l (RdK cs o m K) := q
theorem isBin {op : BinOp} {x y : Value} (q : Ent l (O (binV op x y) K)) : Ent l (O (binV op x y) K) := q
theorem isCv {k : IntKind} {x : Value} (q : Ent l (O (cvV k x) K)) : Ent l (O (cvV k x) K) := q
theorem is_lss {x y : Value} (q : Ent l (O (binV .lss x y) K)) : Ent l (O (binV .lss x y) K) := q
theorem is_leq {x y : Value} (q : Ent l (O (binV .leq x y) K)) : Ent l (O (binV .leq x y) K) := q
theorem is_gtr {x y : Value} (q : Ent l (O (binV .gtr x y) K)) : Ent l (O (binV .gtr x y) K) := q
theorem is_geq {x y : Value} (q : Ent l (O (binV .geq x y) K)) : Ent l (O (binV .geq x y) K) := q
theorem is_eql {x y : Value} (q : Ent l (O (binV .eql x y) K)) : Ent l (O (binV .eql x y) K) := q
theorem is_neq {x y : Value} (q : Ent l (O (binV .neq x y) K)) : Ent l (O (binV .neq x y) K) := q
theorem is_add {x y : Value} (q : Ent l (O (binV .add x y) K)) : Ent l (O (binV .add x y) K) := q
theorem is_sub {x y : Value} (q : Ent l (O (binV .sub x y) K)) : Ent l (O (binV .sub x y) K) := q
theorem is_mul {x y : Value} (q : Ent l (O (binV .mul x y) K)) : Ent l (O (binV .mul x y) K) := q
theorem oLs {k : IntKind} {x y : Int} (q : Ent l (K (.bool (decide (x < y))))) : Ent l (O (binV .lss (.int k x) (.int k y)) K) := ent_O (by show (if k = k then arI .lss k x y else none) = _; rw [if_pos rfl]; rfl) q
theorem oLe {k : IntKind} {x y : Int} (q : Ent l (K (.bool (decide (x ≤ y))))) : Ent l (O (binV .leq (.int k x) (.int k y)) K) := ent_O (by show (if k = k then arI .leq k x y else none) = _; rw [if_pos rfl]; rfl) q
theorem oGt {k : IntKind} {x y : Int} (q : Ent l (K (.bool (decide (x > y))))) : Ent l (O (binV .gtr (.int k x) (.int k y)) K) := ent_O (by show (if k = k then arI .gtr k x y else none) = _; rw [if_pos rfl]; rfl) q
theorem oGe {k : IntKind} {x y : Int} (q : Ent l (K (.bool (decide (x ≥ y))))) : Ent l (O (binV .geq (.int k x) (.int k y)) K) := ent_O (by show (if k = k then arI .geq k x y else none) = _; rw [if_pos rfl]; rfl) q
theorem oAddW {k : IntKind} {x y : Int} (q : Ent l (K (.int k (k.wrap (x + y))))) : Ent l (O (binV .add (.int k x) (.int k y)) K) := ent_O (by show (if k = k then arI .add k x y else none) = _; rw [if_pos rfl]; rfl) q
theorem oSubW {k : IntKind} {x y : Int} (q : Ent l (K (.int k (k.wrap (x - y))))) : Ent l (O (binV .sub (.int k x) (.int k y)) K) := ent_O (by show (if k = k then arI .sub k x y else none) = _; rw [if_pos rfl]; rfl) q
theorem oMulW {k : IntKind} {x y : Int} (q : Ent l (K (.int k (k.wrap (x * y))))) : Ent l (O (binV .mul (.int k x) (.int k y)) K) := ent_O (by show (if k = k then arI .mul k x y else none) = _; rw [if_pos rfl]; rfl) q
theorem oCvW {k j : IntKind} {x : Int} (q : Ent l (K (.int j (j.wrap x)))) : Ent l (O (cvV j (.int k x)) K) := ent_O rfl q
def binW (op : BinOp) (x y : Value) : Option Value :=
  match x, y with
  | .int k a, .int k' b =>
    match op with
    | .shl => if b < 0 then none else some (.int k (k.wrap (a * 2 ^ min b.toNat k.bits)))
    | .shr => if b < 0 then none else some (.int k (a.fdiv (2 ^ min b.toNat k.bits)))
    | _ => if k = k' then arI op k a b else none
  | .string a, .string b => strV op a b
  | _, _ => none
theorem binW_eq (op : BinOp) (x y : Value) : binV op x y = binW op x y := rfl
theorem oBin {op : BinOp} {x y v : Value} (e : binW op x y = some v) (q : Ent l (K v)) : Ent l (O (binV op x y) K) := ent_O (by rw [binW_eq]; exact e) q
theorem ent_VBt {b : Bool} {x y : Asn} (h : b = true) (k : Ent l x) : Ent l (VB (.bool b) x y) := by subst h; exact k
theorem ent_VBf {b : Bool} {x y : Asn} (h : b = false) (k : Ent l y) : Ent l (VB (.bool b) x y) := by subst h; exact k
theorem oMin {k : IntKind} {a b : Int} (q : Ent l (K (.int k (min a b)))) : Ent l (O (minV (.int k a) (.int k b)) K) := ent_O (by
  show some (Value.int k (if b < a then b else a)) = _
  congr 2; split <;> omega) q
theorem oMax {k : IntKind} {a b : Int} (q : Ent l (K (.int k (max a b)))) : Ent l (O (maxV (.int k a) (.int k b)) K) := ent_O (by
  show some (Value.int k (if b > a then b else a)) = _
  congr 2; split <;> omega) q
theorem oSlD {α : Type} {size : Nat} {D : Dt α size} {φ : Asn} (v : Value) {xs : List α} [x : HasDC l v D xs] (k : ∀ base cap, v = .slice base xs.length cap → Ent l φ) : Ent l φ := fun h st => by
  obtain ⟨es, he, _, r⟩ := x.has.row st
  have hl : es.length = xs.length := by rw [← he, List.length_map]
  rcases r with ⟨⟨base0, cap0, e, _⟩, e2, _⟩ | ⟨b, off, cap, _, _, _, _, _, e, _⟩
  · exact k base0 cap0 (by rw [e, ← hl, e2]) h st
  · exact k _ _ (by rw [e, ← hl]) h st
theorem oMk {e : TypeId} {z : List Value} {by' : Nat} {k1 k2 : IntKind} {i j : Int} (n : Nat) (hi : i = n) (hj : j = n) (hb : by' * n ≤ 281474976710656) (hn : n < 9223372036854775808) (q : ∀ b, Ent (cl b (rep z n) :: l) (K (.slice (some ⟨b, 0, none⟩) n n))) :
    Ent l (MSl e z by' (.int k1 i) (.int k2 j) K) := fun h s => by
  subst hi hj
  refine ⟨(n, n), ?_, ent_Nw q h s⟩
  have hb' : (by' : Int) * (n : Int) ≤ 281474976710656 := by
    have : ((by' * n : Nat) : Int) ≤ 281474976710656 := Int.ofNat_le.2 hb
    rw [Int.natCast_mul] at this; exact this
  unfold lenOk
  dsimp only
  rw [if_pos ⟨Int.natCast_nonneg n, Int.le_refl _, hb', Int.ofNat_lt.2 hn⟩]
  rfl
theorem Picks.all : ∀ (l : List Asn), Picks l l []
  | [] => .nil
  | _ :: l => .cons .here (Picks.all l)
def AV {α : Type} {size : Nat} (D : Dt α size) (v : Value) (xs : List α) : Asn := fun h => LV D v xs h ∨ OV D v xs h
section
variable {α : Type} {size : Nat} {D : Dt α size} {v : Value} {xs : List α}
theorem Pick.avO (p : Pick l (OV D v xs) R) : Pick l (AV D v xs) R := fun h s => let ⟨h1, h2, d, le, a, r⟩ := p h s; ⟨h1, h2, d, le, .inr a, r⟩
theorem Pick.avL (x : ∀ h, Star l h → LV D v xs h) : Pick l (AV D v xs) l := fun h s => let ⟨h1, h2, d, le, a, r⟩ := Pick.ro x h s; ⟨h1, h2, d, le, .inl a, r⟩
instance (priority := 1100) : HasDC (AV D v xs :: R) v D xs := ⟨fun h ⟨_, _, _, le, a, _⟩ => a.imp (fun a => RoA.mono ((Le.left _ _).trans le) a) (fun a => a.up ((Le.left _ _).trans le))⟩
theorem Ent.sealA {φ : Asn} [k : Vsb φ] (p : Pick l (AV D v xs) R) (e : Ent (LV D v xs :: R) φ) : Ent l φ := fun h s => by
  obtain ⟨h1, h2, d, le, a, r⟩ := p h s
  rcases a with a | a
  · exact e h ⟨h1, h2, d, le, a, r⟩
  · exact Ent.froze (R := R) .here e h ⟨h1, h2, d, le, a, r⟩
end
theorem ent_range {S : Type} {init : List Value} {body : List Value → (Nat → Value) → (List Value → Asn) → Asn} (n : Nat) (vals : Nat → S → List Value) (φ : Nat → S → Prop) (m : Nat → S → List Asn)
    (s0 : S) (e0 : init = vals 0 s0) (h0 : φ 0 s0) (p : Picks l (m 0 s0) R)
    (k : ∀ i s, φ i s → i < n → ∀ j kk, (∀ s', φ (i + 1) s' → Ent (app (m (i + 1) s') R) (kk (vals (i + 1) s'))) → Ent (m i s ++ R) (body (vals i s) j kk))
    (z : ∀ s, φ n s → ∀ j kk, Ent (m n s ++ R) (body (vals n s) j kk)) : Ent l (VL init body) := by
  refine fun h s => ⟨fun r xs h => ∃ i s', xs = vals i s' ∧ φ i s' ∧ i ≤ n ∧ n - i = r ∧ Star (m i s' ++ R) h, ⟨n, 0, s0, e0, h0, Nat.zero_le _, rfl, p.star s⟩, fun r xs j h' ⟨i, s', e, hφ, hi, hr, st⟩ => ?_⟩
  subst e
  by_cases hlt : i < n
  · exact k i s' hφ hlt j _ (fun s'' f h q => ⟨n - (i + 1), by omega, i + 1, s'', rfl, f, hlt, rfl, q⟩) h' st
  · have : i = n := by omega
    subst this
    exact z s' hφ j _ h' st
theorem ent_loop {S : Type} {init : List Value} {body : List Value → (Nat → Value) → (List Value → Asn) → Asn} (vals : S → List Value) (φ : S → Prop) (μ : S → Nat) (m : S → List Asn)
    (s0 : S) (e0 : init = vals s0) (h0 : φ s0) (p : Picks l (m s0) R)
    (k : ∀ s, φ s → ∀ j kk, (∀ s', φ s' → μ s' < μ s → Ent (app (m s') R) (kk (vals s'))) → Ent (m s ++ R) (body (vals s) j kk)) : Ent l (VL init body) :=
  fun h st => ⟨fun r xs h => ∃ s', xs = vals s' ∧ φ s' ∧ μ s' = r ∧ Star (m s' ++ R) h, ⟨_, s0, e0, h0, rfl, p.star st⟩, fun r xs j h' ⟨s', e, hφ, hr, st⟩ => by
    subst e
    exact k s' hφ j _ (fun s'' f hm h q => ⟨μ s'', by omega, s'', rfl, f, rfl, q⟩) h' st⟩
theorem ent_loopD {S : Type} {init : List Value} {body : List Value → (Nat → Value) → (List Value → Asn) → Asn} (vals : S → List Value) (φ : S → Prop) (μ : S → Nat) (m : S → List Asn)
    (s0 : S) (e0 : init = vals s0) (h0 : φ s0) (p : Picks l (m s0) R)
    (k : ∀ s, φ s → ∀ j kk, (∀ s', φ s' → μ s' < μ s → Ent (m s') (kk (vals s'))) → Ent (m s) (body (vals s) j kk)) : Ent l (VL init body) :=
  fun h st => ⟨fun r xs h => ∃ s', xs = vals s' ∧ φ s' ∧ μ s' = r ∧ Star (m s') h, ⟨_, s0, e0, h0, rfl, (p.star st).drop_right⟩, fun r xs j h' ⟨s', e, hφ, hr, st⟩ => by
    subst e
    exact k s' hφ j _ (fun s'' f hm h q => ⟨μ s'', by omega, s'', rfl, f, rfl, q⟩) h' st⟩
theorem ent_rangeD {S : Type} {init : List Value} {body : List Value → (Nat → Value) → (List Value → Asn) → Asn} (n : Nat) (vals : Nat → S → List Value) (φ : Nat → S → Prop) (m : Nat → S → List Asn)
    (s0 : S) (e0 : init = vals 0 s0) (h0 : φ 0 s0) (p : Picks l (m 0 s0) R)
    (k : ∀ i s, φ i s → i < n → ∀ j kk, (∀ s', φ (i + 1) s' → Ent (m (i + 1) s') (kk (vals (i + 1) s'))) → Ent (m i s) (body (vals i s) j kk))
    (z : ∀ s, φ n s → ∀ j kk, Ent (m n s) (body (vals n s) j kk)) : Ent l (VL init body) := by
  refine fun h s => ⟨fun r xs h => ∃ i s', xs = vals i s' ∧ φ i s' ∧ i ≤ n ∧ n - i = r ∧ Star (m i s') h, ⟨n, 0, s0, e0, h0, Nat.zero_le _, rfl, (p.star s).drop_right⟩, fun r xs j h' ⟨i, s', e, hφ, hi, hr, st⟩ => ?_⟩
  subst e
  by_cases hlt : i < n
  · exact k i s' hφ hlt j _ (fun s'' f h q => ⟨n - (i + 1), by omega, i + 1, s'', rfl, f, hlt, rfl, q⟩) h' st
  · have : i = n := by omega
    subst this
    exact z s' hφ j _ h' st
theorem Ent.again {kk : List Value → Asn} {xs ys : List Value} {L R' : List Asn} (a : Ent L (kk ys)) (e : xs = ys) (p : Picks l L R') : Ent l (kk xs) := by
  subst e; exact fun h s => a h (p.star s).drop_right
end
end Go.Sl
namespace Go.Sl
open Go
def partB (P : Program) (t : TypeId) (cs : Array Value) (off : Nat) : Option Value :=
  match P.underlying t with
  | some d => if isAggD d then (P.info? t).map fun i => .agg (cs.extract off (off + i.size)) else cs[off]?
  | none => none
def eqFs (P : Program) (r : TypeId → Value → Value → Option Bool) (xs ys : Array Value) : List Field → Option Bool
  | [] => some true
  | f :: fs =>
    if f.name = "_" then eqFs P r xs ys fs else
    (partB P f.type xs f.offset).bind fun a => (partB P f.type ys f.offset).bind fun b => (r f.type a b).bind fun q => (eqFs P r xs ys fs).map fun z => q && z
def eqB (P : Program) : Nat → TypeId → Value → Value → Option Bool
  | 0, _, _, _ => none
  | d + 1, t, x, y =>
    match P.underlying t, x, y with
    | some .bool, .bool a, .bool b => some (a == b)
    | some (.int _), .int k a, .int k' b => if k = k' then some (a == b) else none
    | some .string, .string a, .string b => some (decide (a = b))
    | some (.struct fs), .agg xs, .agg ys => if P.stoodInHeld t then none else eqFs P (eqB P d) xs ys fs.toList
    | _, _, _ => none
section
variable {P : Program} {l R : List Asn} {K : Value → Asn}
theorem partB_run {t : TypeId} {cs : Array Value} {off : Nat} {v : Value} {w : World} (h : partB P t cs off = some v) : (part t cs off).run P w = .ok v w := by
  unfold partB at h
  split at h
  · rename_i d hd
    unfold part
    rw [Sem.run_bind, isAgg_run hd]
    simp only [Result.andThen_ok]
    by_cases ha : isAggD d = true
    · rw [if_pos ha] at h
      rw [Option.map_eq_some_iff] at h
      obtain ⟨i, hi, rfl⟩ := h
      rw [ha]
      simp [Sem.run_bind, sizeOf, typeInfo, program, Sem.run, hi]
    · rw [if_neg ha] at h
      have ha' : isAggD d = false := by simpa using ha
      rw [ha']
      simp only [Bool.false_eq_true, if_false, h, Sem.run_pure]
  · cases h
theorem eqFs_run {d : Nat} {r : TypeId → Value → Value → Option Bool} (hr : ∀ t x y b w, r t x y = some b → (Op.equalIn d t x y).run P w = .ok b w) (xs ys : Array Value) : ∀ (fs : List Field) (b : Bool) (w : World),
    eqFs P r xs ys fs = some b → (Op.eqFields d xs ys fs).run P w = .ok b w
  | [], b, w, h => by cases h; rfl
  | f :: fs, b, w, h => by
    unfold eqFs at h
    unfold Op.eqFields
    by_cases hn : f.name = "_"
    · rw [if_pos hn] at h
      rw [if_neg (by simpa using hn)]
      exact eqFs_run hr xs ys fs b w h
    · rw [if_neg hn] at h
      rw [if_pos hn]
      simp only [Option.bind_eq_some_iff, Option.map_eq_some_iff] at h
      obtain ⟨a, ha, c, hc, q, hq, z, hz, rfl⟩ := h
      rw [Sem.run_bind, partB_run ha]
      simp only [Result.andThen_ok]
      rw [Sem.run_bind, partB_run hc]
      simp only [Result.andThen_ok]
      rw [Sem.run_bind, hr _ _ _ _ _ hq]
      simp only [Result.andThen_ok]
      cases q
      · simp [Sem.run_pure]
      · simp only [Bool.not_true, Bool.false_eq_true, if_false, Bool.true_and]
        exact eqFs_run hr xs ys fs z w hz
theorem eqB_run : ∀ (d : Nat) (t : TypeId) (x y : Value) (b : Bool) (w : World), eqB P d t x y = some b → (Op.equalIn d t x y).run P w = .ok b w
  | 0, _, _, _, _, _, h => by simp [eqB] at h
  | d + 1, t, x, y, b, w, h => by
    unfold eqB at h
    split at h
    · rename_i ht; cases h; exact run_equalIn_bool' w d t _ _ ht
    · rename_i k k' a k2 c ht
      split at h
      · rename_i e; subst e; cases h; exact run_equalIn_int w d t _ _ _ _ ht
      · cases h
    · rename_i a c ht; cases h
      rw [run_equalIn_string w d t _ _ ht, str_eq]
    · rename_i fs xs ys ht
      split at h
      · cases h
      · rename_i hs
        have hf : P.fieldsOf t = fs := by unfold Program.fieldsOf; rw [ht]
        rw [run_equalIn_agg w d t xs ys (by rw [hf]; exact ht) (by simpa using hs), hf]
        exact eqFs_run (fun t x y b w h => eqB_run d t x y b w h) xs ys _ b w h
    · cases h
theorem oEqG {t : TypeId} {ox oy : Operand} {xs ys : Array Value} {r : Bool} (hg : P.eqGuardType P.depth t = false) (e : eqB P 10000 t (.agg xs) (.agg ys) = some r) (q : Ent l (K (.bool r))) :
    Ent l (Rd P (do eqGuard .eql t ox oy (.agg xs) (.agg ys); binOp .eql t (.agg xs) (.agg ys)) K) := fun h s =>
  ⟨_, fun w _ => by rw [Sem.run_bind, run_eqGuard_agg w .eql t ox oy xs ys hg]; simp only [Result.andThen_ok]; rw [run_eql_struct, eqB_run _ _ _ _ _ w e]; rfl, q h s⟩
theorem oNeG {t : TypeId} {ox oy : Operand} {xs ys : Array Value} {r : Bool} (hg : P.eqGuardType P.depth t = false) (e : eqB P 10000 t (.agg xs) (.agg ys) = some r) (q : Ent l (K (.bool !r))) :
    Ent l (Rd P (do eqGuard .neq t ox oy (.agg xs) (.agg ys); binOp .neq t (.agg xs) (.agg ys)) K) := fun h s =>
  ⟨_, fun w _ => by rw [Sem.run_bind, run_eqGuard_agg w .neq t ox oy xs ys hg]; simp only [Result.andThen_ok]; rw [run_neq_struct, eqB_run _ _ _ _ _ w e]; rfl, q h s⟩
theorem Pick.ofRw {α : Type} {size : Nat} {f : α → List Value} [s : Sized f size] {h1 : ∀ x, (f x).length = size} {h2 : ∀ x, (f x).all one = true} {v : Value} {xs : List α} (p : Pick l (Rw f v xs) R) : Pick l (OV (Dt.of f h1 h2) v xs) R := fun h st => by
  obtain ⟨k1, k2, d, le, a, r⟩ := p h st
  have e1 : ∀ xs : List α, (xs.map fun x => (⟨x, f x, h1 x, h2 x⟩ : El α size)).map El.x = xs := fun xs => by rw [List.map_map]; exact List.map_id _
  have e2 : ∀ xs : List α, flat elF (xs.map fun x => (⟨x, f x, h1 x, h2 x⟩ : El α size)) = flat f xs := by
    intro xs
    induction xs with
    | nil => rfl
    | cons x xs ih => show f x ++ flat elF (xs.map _) = f x ++ flat f xs; rw [ih]
  refine ⟨k1, k2, d, le, ⟨xs.map fun x => ⟨x, f x, h1 x, h2 x⟩, e1 xs, ?_, fun e he => ?_⟩, r⟩
  · rw [e2, List.length_map]; exact a
  · obtain ⟨x, _, rfl⟩ := List.mem_map.1 he
    rfl
theorem LV.of_rows {α : Type} {size : Nat} {D : Dt α size} {v : Value} {h0 : PH} {Q : α → Prop} {rows : List (List Value)} (hr : ∀ r ∈ rows, ∃ x, Q x ∧ D.rep x r h0) (row : RoRow size v rows.length rows.flatten h0) :
    ∃ xs : List α, (∀ x ∈ xs, Q x) ∧ xs.length = rows.length ∧ LV D v xs h0 := by
  have key : ∀ rows : List (List Value), (∀ r ∈ rows, ∃ x, Q x ∧ D.rep x r h0) → ∃ es : List (El α size), es.map El.cs = rows ∧ (∀ e ∈ es, Q e.x ∧ D.rep e.x e.cs h0) := by
    intro rows
    induction rows with
    | nil => intro _; exact ⟨[], rfl, by simp⟩
    | cons r rows ih =>
      intro h
      obtain ⟨x, hx, hrx⟩ := h r (by simp)
      obtain ⟨es, e1, e2⟩ := ih (fun r' hr' => h r' (by simp [hr']))
      exact ⟨⟨x, r, D.len hrx, D.ones hrx⟩ :: es, by simp [e1], fun e he => by
        rcases List.mem_cons.1 he with rfl | he
        · exact ⟨hx, hrx⟩
        · exact e2 e he⟩
  obtain ⟨es, e1, e2⟩ := key rows hr
  have hf : ∀ es : List (El α size), flat elF es = (es.map El.cs).flatten := by
    intro es
    induction es with
    | nil => rfl
    | cons e es ih => show e.cs ++ flat elF es = _; rw [ih]; rfl
  refine ⟨es.map El.x, fun x hx => ?_, by rw [List.length_map, ← e1, List.length_map], es, rfl, ?_, fun e he => (e2 e he).2⟩
  · obtain ⟨e, he, rfl⟩ := List.mem_map.1 hx; exact (e2 e he).1
  · rw [hf, e1]
    have : es.length = rows.length := by rw [← e1, List.length_map]
    rw [this]; exact row
theorem ent_at {φ : Asn} {A : Asn} [r : RoA A] {h : PH} (a : A h) (e : Ent [A] φ) : φ h := e h (star1 a)
theorem Ctr.at {f : FuncId} {args : List Value} {pre : List Asn} {X : Type} {res : X → Value} {φ : X → Prop} {post : X → List Asn} {v0 : Value} {h : PH} (F : Ctr P f args pre res φ post) (s : Star pre h) (hv : ∀ x, res x = v0) :
    Cl P f args (fun v _ => v = v0) h := OpR.mono (F h s) fun v h' ⟨_, _, x, e, _⟩ => e.trans (hv x)
theorem Rdg.fld {W : World} {t : TypeId} {fs : Array Field} {cs r : List Value} {f : Field} {n : Nat} (ht : P.underlying t = some (.struct fs)) (h : Rdg P W t cs) (i : Nat) (hi : fs[i]? = some f) (hn : P.cellsOf f.type = n) (hr : (cs.drop f.offset).take n = r) : Rdg P W f.type r := by
  subst hn hr; exact (Rdg.struct ht h).2 i f hi
theorem len1 {cs : List Value} (h : cs.length = 1) : ∃ a, cs = [a] := match cs, h with | [a], _ => ⟨a, rfl⟩
theorem len2 {cs : List Value} (h : cs.length = 2) : ∃ a b, cs = [a, b] := match cs, h with | [a, b], _ => ⟨a, b, rfl⟩
theorem len3 {cs : List Value} (h : cs.length = 3) : ∃ a b c, cs = [a, b, c] := match cs, h with | [a, b, c], _ => ⟨a, b, c, rfl⟩
theorem len4 {cs : List Value} (h : cs.length = 4) : ∃ a b c d, cs = [a, b, c, d] := match cs, h with | [a, b, c, d], _ => ⟨a, b, c, d, rfl⟩
theorem len8 {cs : List Value} (h : cs.length = 8) : ∃ a b c d e f g i, cs = [a, b, c, d, e, f, g, i] := match cs, h with | [a, b, c, d, e, f, g, i], _ => ⟨a, b, c, d, e, f, g, i, rfl⟩
end
end Go.Sl
namespace Go.Sl
open Go
def dU8 : Dt UInt8 1 := Dt.of u8 (fun _ => rfl) (fun _ => rfl)
section
variable {P : Program} {l R : List Asn} {K : Value → Asn}
theorem HasD.bytes {v : Value} {xs : List UInt8} (x : HasD l dU8 v xs) {h : PH} (s : Star l h) : (Z0 v ∧ xs = []) ∨ ∃ b off cap t c e fz, v = .slice (some ⟨b, off, none⟩) xs.length cap ∧ h b = some (t, .cells c e fz) ∧ (c.toList.drop off).take xs.length = flat u8 xs ∧ off + xs.length ≤ c.size := by
  obtain ⟨es, he, ha, r⟩ := x.row s
  have hl : es.length = xs.length := by rw [← he, List.length_map]
  have hf : flat elF es = flat u8 xs := by
    rw [← he]
    have : ∀ es : List (El UInt8 1), (∀ e, e ∈ es → e.cs = u8 e.x) → flat elF es = flat u8 (es.map El.x) := by
      intro es
      induction es with
      | nil => intro _; rfl
      | cons e es ih => intro h; show e.cs ++ flat elF es = u8 e.x ++ flat u8 (es.map El.x); rw [ih (fun e he => h e (by simp [he])), h e (by simp)]
    exact this es (fun e he => ha e he)
  rw [hf] at r
  rcases r with ⟨z, h0, _⟩ | ⟨b, off, cap, pre, post, t, e, fz, rfl, hb, h3, h4, h5⟩
  · exact .inl ⟨z, List.length_eq_zero_iff.1 (hl.symm.trans h0)⟩
  · refine .inr ⟨b, off, cap, t, _, e, fz, by rw [hl], hb, ?_, ?_⟩
    · subst h3
      show ((pre ++ flat u8 xs ++ post).drop pre.length).take xs.length = _
      rw [List.append_assoc, List.drop_left, List.take_append_of_le_length (by rw [flat_len]; omega), List.take_of_length_le (by rw [flat_len]; omega)]
    · simp only [List.size_toArray, List.length_append]
      rw [flat_len]; omega
theorem oB2S {T U e : TypeId} {v : Value} {xs : List UInt8} [x : HasDC l v dU8 xs] [hT : UndC P T (.slice e)] [he : UndC P e (.int .u8)] [hU : UndC P U .string] (q : Ent l (K (.string ⟨xs.toArray⟩))) : Ent l (Rd P (convert T U v) K) := fun h s => by
  have key : ∀ w, Sat h w → (Conv.bytesToString v).run P w = .ok (.string ⟨xs.toArray⟩) w := by
    intro w hs
    rcases x.has.bytes s with ⟨⟨base, cap, rfl, _⟩, rfl⟩ | ⟨b, off, cap, t, c, e', fz, rfl, hb, hc⟩
    · cases base with
      | none => rfl
      | some a => rfl
    · have h1 : (loadCells ⟨b, off, none⟩ xs.length).run P w = .ok ((xs.map fun x => (x.toNat : Int)).map (Value.int .u8)).toArray w := by
        have := loadCellsFrom_run (P := P) (off := off) (hs b _ hb) xs.length 0 #[] (by omega)
        unfold loadCells
        rw [this, Nat.add_zero, hc.1]
        congr 1
        rw [flat_u8, List.map_map]
        simp
      rw [run_bytesToString w _ _ _ _ h1]
      congr 2
      have key : ∀ (xs : List UInt8) (s : ByteArray), (xs.map fun x => (x.toNat : Int)).foldl (fun r n => r.push (UInt8.ofNat n.toNat)) s = ⟨s.data ++ xs.toArray⟩ := by
        intro xs
        induction xs with
        | nil => intro s; simp
        | cons x xs ih =>
          intro s
          simp only [List.map_cons, List.foldl_cons]
          rw [ih]
          have e1 : UInt8.ofNat ((x.toNat : Int).toNat) = x := by simp
          rw [e1]
          congr 1
          apply Array.ext'
          simp
      rw [key]
      show (⟨ByteArray.empty.data ++ xs.toArray⟩ : ByteArray) = _
      congr 1
      exact Array.empty_append
  have hv : ∃ base n cap, v = .slice base n cap := by
    rcases x.has.bytes s with ⟨⟨base, cap, rfl, _⟩, rfl⟩ | ⟨b, off, cap, t, c, e', fz, rfl, hb, hc⟩
    · exact ⟨_, _, _, rfl⟩
    · exact ⟨_, _, _, rfl⟩
  obtain ⟨base, n, cap, rfl⟩ := hv
  refine ⟨_, fun w hs => ?_, q h s⟩
  unfold convert
  simp only [Sem.run_bind, und_run hT.und, und_run hU.und, Result.andThen_ok, und_run he.und]
  exact key w hs
end
end Go.Sl
namespace Go.Sl
open Go
def Bnd (P : Nat → Prop) : Prop := ∀ n, P n
def Hid (p : Prop) : Prop := p
theorem Hid.on {p : Prop} (h : p) : Hid p := h
theorem Hid.out {p : Prop} (h : Hid p) : p := h
attribute [irreducible] Hid
theorem bnd {P : Nat → Prop} (h : ∀ n, P n) : Bnd P := h
section
variable {P : Program} {l R : List Asn} {K : Value → Asn}
theorem oNb {e : TypeId} {c : List Value} {f : Nat → Value} (q : Bnd fun b => Ent (cl b c :: l) (K (f b))) : Ent l (Nw e c f K) := oN q
end
theorem hAs {l : List Asn} {A : Asn} (a : ∀ h, Star l h → A h := by repeat (first | exact has_here | apply has_there)) : ∀ h, Star l h → A h := a
theorem wHs {l R : List Asn} {A : Asn} (a : Pick l A R := by repeat (first | exact Pick.here | apply Pick.there)) : Pick l A R := a
theorem pKs {l A R : List Asn} (a : Picks l A R := by repeat (first | exact .nil | apply Picks.cons (by first | exact Pick.ro (by repeat (first | exact has_here | apply has_there)) | exact .per | ((repeat (first | exact Pick.here | apply Pick.there)); done) | (apply Pick.avO; (repeat (first | exact Pick.here | apply Pick.there)); done) | exact Pick.avL (by repeat (first | exact has_here | apply has_there))) | exact Picks.all _)) : Picks l A R := a
theorem nMs {p : Prop} (a : p := by (try simp only [nth, List.getD_cons_zero, List.getD_cons_succ, bldV, placeIn, wrCells, rep, Value.cells, aggV, List.set_cons_zero, List.set_cons_succ, List.length_cons, List.length_nil, List.nil_append, List.cons_append, List.append_nil, List.size_toArray, Option.bind_some, Nat.reduceAdd, Nat.reduceMul, Nat.reduceLeDiff, Nat.reduceEqDiff, Nat.zero_le, Nat.le_refl, true_and, and_self, and_true, if_true]); first | done | rfl) : p := a
theorem sTp {G' G : Prop} (g : G') (a : Hid G' → G := by intro h; ((try dsimp only [List.cons_append, List.nil_append, List.append])); (repeat (first | (refine isO ?_; first | refine oExt rfl ?_ | refine ent_O rfl ?_ | refine oAgg (by (try simp only [nth, List.getD_cons_zero, List.getD_cons_succ, bldV, placeIn, wrCells, rep, Value.cells, aggV, List.set_cons_zero, List.set_cons_succ, List.length_cons, List.length_nil, List.nil_append, List.cons_append, List.append_nil, List.size_toArray, Option.bind_some, Nat.reduceAdd, Nat.reduceMul, Nat.reduceLeDiff, Nat.reduceEqDiff, Nat.zero_le, Nat.le_refl, true_and, and_self, and_true, if_true]); first | done | rfl) ?_ | refine oMin ?_ | refine oMax ?_ | (refine isCv ?_; first | refine oCv (by omega) (by omega) ?_ | refine oCvW ?_) | (refine isBin ?_; first | (refine is_lss ?_; first | refine oLsT (by omega) ?_ | refine oLsF (by omega) ?_ | refine oLs ?_) | (refine is_leq ?_; first | refine oLeT (by omega) ?_ | refine oLeF (by omega) ?_ | refine oLe ?_) | (refine is_gtr ?_; first | refine oGtT (by omega) ?_ | refine oGtF (by omega) ?_ | refine oGt ?_) | (refine is_geq ?_; first | refine oGeT (by omega) ?_ | refine oGeF (by omega) ?_ | refine oGe ?_) | (refine is_eql ?_; first | refine oEqT (by omega) ?_ | refine oEqF (by omega) ?_ | refine oEq ?_ | refine oEqS ?_) | (refine is_neq ?_; first | refine oNeT (by omega) ?_ | refine oNeF (by omega) ?_ | refine oNe ?_ | refine oNeS ?_) | (refine is_add ?_; first | refine oAdd (by omega) (by omega) ?_ | refine oCatS (by omega) ?_ | refine oAddW ?_) | (refine is_sub ?_; first | refine oSub (by omega) (by omega) ?_ | refine oSubW ?_) | (refine is_mul ?_; first | refine oMul (by omega) (by omega) ?_ | refine oMulW ?_) | refine oBin rfl ?_) | refine oLenD ?_) | (refine isLd ?_; first | refine oLW rfl ?_ | refine oL rfl ?_) | (refine isSt ?_; first | refine oSW rfl rfl rfl ?_ | refine oS rfl rfl rfl (by (try simp only [nth, List.getD_cons_zero, List.getD_cons_succ, bldV, placeIn, wrCells, rep, Value.cells, aggV, List.set_cons_zero, List.set_cons_succ, List.length_cons, List.length_nil, List.nil_append, List.cons_append, List.append_nil, List.size_toArray, Option.bind_some, Nat.reduceAdd, Nat.reduceMul, Nat.reduceLeDiff, Nat.reduceEqDiff, Nat.zero_le, Nat.le_refl, true_and, and_self, and_true, if_true]); first | done | rfl) ?_) | (refine isVB ?_; first | refine ent_true ?_ | refine ent_false ?_ | refine ent_VBt (decide_eq_true (by omega)) ?_ | refine ent_VBf (decide_eq_false (by omega)) ?_) | refine oNb ?_ | (refine isRdK ?_; first | refine rdkW rfl ?_ | refine rdk rfl ?_) | (refine isAnd ?_; refine oA (by first | exact ent_undef | (refine oL rfl ?_; exact ent_Is)) ?_))); exact Hid.out h) : G := a (Hid.on g)
theorem sTq {G' G : Prop} (g : G') (a : Hid G' → G := by intro h; ((try dsimp only [List.cons_append, List.nil_append, List.append])); (repeat (first | refine oEq ?_ | refine oNe ?_ | refine oAdd (by omega) (by omega) ?_ | refine oSub (by omega) (by omega) ?_ | refine oMul (by omega) (by omega) ?_ | refine oCv (by omega) (by omega) ?_ | refine ent_O rfl ?_ | refine oL rfl ?_ | refine oS rfl rfl rfl rfl ?_ | refine oNb ?_ | refine ent_true ?_ | refine ent_false ?_ | refine oA (by first | exact ent_undef | (refine oL rfl ?_; exact ent_Is)) ?_)); exact Hid.out h) : G := a (Hid.on g)
end Go.Sl
namespace Go.Proofs.Ytndanmhgbfjinaa
open Go Go.Sl Go.Cd
attribute [local irreducible] Try.prog cl ro mp mpI
abbrev pt (b : Nat) : Value := .pointer (some ⟨b, 0, none⟩)
def frC (F : AF) (mb : Nat) : List Value := [.int .u32 F.time, .int .i64 F.parts.length, .int .i64 F.first, .map (some mb), .int .i64 (bytesN F.parts)]
def FrP (b : Nat) (F : AF) : Asn := fun h => ∃ q : Nat × List (Int × Value), RepM q.2 F.parts ∧ Star [cl b (frC F q.1), mpI q.1 .i64 q.2] h
theorem FrP.open {b : Nat} {F : AF} (h : PH) (a : FrP b F h) : ∃ q : Nat × List (Int × Value), RepM q.2 F.parts ∧ Star [cl b (frC F q.1), mpI q.1 .i64 q.2] h := a
theorem FrP.close {b mb : Nat} {m : List (Int × Value)} {F : AF} (r : RepM m F.parts) (h : PH) (s : Star [cl b (frC F mb), mpI mb .i64 m] h) : FrP b F h := ⟨(mb, m), r, s⟩
attribute [local irreducible] FrP
theorem time_fn (b : Nat) (F : AF) : Ctr Try.prog 28 [pt b] [FrP b F] (fun _ : Unit => .int .u32 F.time) (fun _ => True) (fun _ => [FrP b F]) := by
  refine ctr_of e28 ?_
  refine Ent.openX P0 FrP.open fun ⟨mb, m⟩ r => ?_
  unfold S28
  dsimp only [List.cons_append, List.nil_append]
  (refine sTq ?_; repeat (refine bnd fun nb => ?_; refine sTq ?_))
  exact ent_ret () rfl trivial (Shift.close (R := []) pKs (FrP.close r))
theorem first_fn (b : Nat) (F : AF) : Ctr Try.prog 30 [pt b] [FrP b F] (fun _ : Unit => .int .i64 F.first) (fun _ => True) (fun _ => [FrP b F]) := by
  refine ctr_of e30 ?_
  refine Ent.openX P0 FrP.open fun ⟨mb, m⟩ r => ?_
  unfold S30
  dsimp only [List.cons_append, List.nil_append]
  (refine sTq ?_; repeat (refine bnd fun nb => ?_; refine sTq ?_))
  exact ent_ret () rfl trivial (Shift.close (R := []) pKs (FrP.close r))
theorem bytes_fn (b : Nat) (F : AF) : Ctr Try.prog 45 [pt b] [FrP b F] (fun _ : Unit => .int .i64 (bytesN F.parts)) (fun _ => True) (fun _ => [FrP b F]) := by
  refine ctr_of e45 ?_
  refine Ent.openX P0 FrP.open fun ⟨mb, m⟩ r => ?_
  unfold S45
  dsimp only [List.cons_append, List.nil_append]
  (refine sTq ?_; repeat (refine bnd fun nb => ?_; refine sTq ?_))
  exact ent_ret () rfl trivial (Shift.close (R := []) pKs (FrP.close r))
theorem have_fn (b : Nat) (F : AF) : Ctr Try.prog 44 [pt b] [FrP b F] (fun _ : Unit => .int .i64 (haveN F.parts)) (fun _ => True) (fun _ => [FrP b F]) := by
  refine ctr_of e44 ?_
  refine Ent.openX P0 FrP.open fun ⟨mb, m⟩ r => ?_
  unfold S44
  dsimp only [List.cons_append, List.nil_append]
  (refine sTq ?_; repeat (refine bnd fun nb => ?_; refine sTq ?_))
  refine oLnM ?_
  rw [r.2]
  exact ent_ret () rfl trivial (Shift.close (R := []) pKs (FrP.close r))
theorem whole_fn (b : Nat) (F : AF) : Ctr Try.prog 46 [pt b] [FrP b F] (fun _ : Unit => .bool F.whole) (fun _ => True) (fun _ => [FrP b F]) := by
  refine ctr_of e46 ?_
  refine Ent.openX P0 FrP.open fun ⟨mb, m⟩ r => ?_
  unfold S46
  dsimp only [List.cons_append, List.nil_append]
  (refine sTq ?_; repeat (refine bnd fun nb => ?_; refine sTq ?_))
  refine oLnM ?_
  rw [r.2]
  (refine sTq ?_; repeat (refine bnd fun nb => ?_; refine sTq ?_))
  refine ent_ret () ?_ trivial (Shift.close (R := []) pKs (FrP.close r))
  unfold AF.whole
  simp only [Int.ofNat_inj]
theorem new_fn (t count now : Int) : Ctr Try.prog 42 [.int .u32 t, .int .i64 count, .int .i64 now] [] pt (fun _ : Nat => True) (fun b => [FrP b (AF.new t count now)]) := by
  refine ctr_of e42 ?_
  unfold S42
  refine ent_O rfl ?_
  refine ent_O rfl ?_
  refine oM (k := .i64) fun mb => ?_
  refine ent_O rfl ?_
  refine oN fun b => ?_
  refine ent_ret b rfl trivial (Shift.close (m := [cl b (frC (AF.new t count now) mb), mpI mb .i64 []]) (R := []) ?_ (FrP.close (RepM.nil _)))
  have e : ((AF.new t count now).parts.length : Int) = (if (if 255 < count then 255 else count) > 1 then if 255 < count then 255 else count else 1) := by
    simp only [AF.new, List.length_replicate]
    split <;> split <;> omega
  have e2 : bytesN (AF.new t count now).parts = 0 := bytesN_replicate _
  unfold frC
  rw [e, e2]
  exact pKs
theorem put_fn (b : Nat) (F : AF) (i c : Int) (s : ByteArray) (hs : bytesN F.parts + s.size ≤ 4611686018427387904) :
    Ctr Try.prog 25 [pt b, .agg #[.int .i64 i, .int .i64 c], .string s] [FrP b F] (fun _ : Unit => .int .i64 (F.put i c s).2) (fun _ => True) (fun _ => [FrP b (F.put i c s).1]) := by
  refine ctr_of e25 ?_
  refine Ent.openX P0 FrP.open fun ⟨mb, m⟩ r => ?_
  unfold S25
  dsimp only [List.cons_append, List.nil_append]
  (refine sTq ?_; repeat (refine bnd fun nb => ?_; refine sTq ?_))
  refine oLk2 ?_
  (refine sTq ?_; repeat (refine bnd fun nb => ?_; refine sTq ?_))
  refine oJ (X := Bool) (fun b => [.bool b]) (fun b => b = true ↔ (c ≠ F.parts.length ∨ i < 0 ∨ i ≥ F.parts.length)) ?_ ?_
  · (refine sTq ?_; repeat (refine bnd fun nb => ?_; refine sTq ?_))
    refine oI (fun h1 => oJ0 true rfl (by simp [h1])) fun h1 => ?_
    (refine sTq ?_; repeat (refine bnd fun nb => ?_; refine sTq ?_))
    refine oI (fun h2 => oJ0 true rfl (by simp [h2])) fun h2 => ?_
    (refine sTq ?_; repeat (refine bnd fun nb => ?_; refine sTq ?_))
    exact oJ0 (decide (i ≥ F.parts.length)) rfl (by simp [h2] at *; simp [h1])
  · intro bad hbad j
    refine ent_VB (b := bad) (fun hb => ?_) fun hb => ?_
    · have e : F.put i c s = (F, 4) := by unfold AF.put; rw [if_pos (hbad.1 hb)]
      rw [e]
      exact ent_ret () rfl trivial (Shift.close pKs (FrP.close r))
    have hok : ¬ (c ≠ F.parts.length ∨ i < 0 ∨ i ≥ F.parts.length) := fun h => by simp [hbad.2 h] at hb
    have hl := r.1 i
    refine ent_VB (b := (alook m i).isSome) (fun hs => ?_) fun hs => ?_
    · have e : F.put i c s = (F, 3) := by
        unfold AF.put; rw [if_neg hok, if_pos]
        rw [hl] at hs; simpa using hs
      rw [e]
      exact ent_ret () rfl trivial (Shift.close pKs (FrP.close r))
    have hp : (pat F.parts i).isSome = false := by rw [hl] at hs; simpa using hs
    have h0 : 0 ≤ i := by omega
    have h1 : i < F.parts.length := by omega
    (refine sTq ?_; repeat (refine bnd fun nb => ?_; refine sTq ?_))
    refine oUpM ?_
    (refine sTq ?_; repeat (refine bnd fun nb => ?_; refine sTq ?_))
    let G : AF := ⟨F.time, F.first, F.parts.set i.toNat (some s)⟩
    have e : F.put i c s = (G, if G.whole then 2 else 1) := by
      unfold AF.put; rw [if_neg hok, if_neg (by simp [hp])]
    have e2 : bytesN G.parts = bytesN F.parts + s.size := bytesN_set (pat_none h0 h1 hp) s
    have hc : frC G mb = [.int .u32 F.time, .int .i64 F.parts.length, .int .i64 F.first, .map (some mb), .int .i64 (bytesN F.parts + s.size)] := by
      simp [frC, G, List.length_set, bytesN_set (pat_none h0 h1 hp) s]
    refine Ent.close (m := [cl b (frC G mb), mpI mb .i64 (aput m i (.string s))]) (by rw [hc]; exact pKs) (FrP.close (r.put h0 h1 hp s)) ?_
    refine Ctr.use (whole_fn b G) pKs fun _ _ => ?_
    dsimp only [List.cons_append, List.nil_append]
    rw [e]
    refine ent_VB (fun hw => ?_) fun hw => ?_
    · rw [if_pos hw]
      exact ent_ret () rfl trivial (Shift.of_picks pKs)
    · rw [if_neg (by simp [hw])]
      exact ent_ret () rfl trivial (Shift.of_picks pKs)
end Go.Proofs.Ytndanmhgbfjinaa
namespace Go.Proofs.Ytndanmhgbfjinaa
open Go Go.Sl Go.Cd
attribute [local irreducible] Try.prog cl ro mp mpI clT RowP
def BdP (b : Nat) (s : ByteArray) : Asn := fun h => ∃ q : Value × Value, (q.1 = .pointer none ∨ q.1 = pt b) ∧ Star [clT b 103 [q.1, q.2], RowP (· = 5) 1 q.2 s.data.toList.length (flat u8 s.data.toList)] h
theorem BdP.open {b : Nat} {s : ByteArray} (h : PH) (a : BdP b s h) : ∃ q : Value × Value, (q.1 = .pointer none ∨ q.1 = pt b) ∧ Star [clT b 103 [q.1, q.2], RowP (· = 5) 1 q.2 s.data.toList.length (flat u8 s.data.toList)] h := a
theorem BdP.close {b : Nat} {s : ByteArray} {a v : Value} (ha : a = .pointer none ∨ a = pt b) (h : PH) (st : Star [clT b 103 [a, v], RowP (· = 5) 1 v s.data.toList.length (flat u8 s.data.toList)] h) : BdP b s h := ⟨(a, v), ha, st⟩
attribute [local irreducible] BdP
theorem noescape (x : Value) {K : Value → Asn} {l : List Asn} (q : Ent l (K x)) : Ent l (Cl Try.prog 61 [x] K) := fun h st =>
  cl_ext (e := Extern.AbiNoEscape.same) Try.func61 rfl rfl rfl rfl (Runs.pure (q h st))
theorem copyCheck_fn (b : Nat) (a v : Value) (ha : a = .pointer none ∨ a = pt b) :
    Ctr Try.prog 58 [pt b] [clT b 103 [a, v]] (fun _ : Unit => .tuple #[]) (fun _ => True) (fun _ => [clT b 103 [pt b, v]]) := by
  refine ctr_of e58 ?_
  unfold S58
  rcases ha with rfl | rfl
  · refine ent_O rfl ?_
    refine ent_O rfl ?_
    refine oL rfl ?_
    refine ent_O rfl ?_
    refine ent_true ?_
    obtain ⟨i, hi, hs, _⟩ := (InfC.of (P := Try.prog) (t := 103) (s := 2) (b := 32) (z := .agg #[.pointer none, .slice none 0 0]) (by kernel_rfl)).inf
    refine conv_un (e := 103) (n := 2) Try.underlying101 Try.underlying124 hi (by rw [hs]; decide) (HasT.pick P0) (by decide) ?_
    refine noescape _ ?_
    refine conv_ptr (e := 103) (n := 2) Try.underlying124 Try.underlying101 hi (HasT.pick P0) (by kernel_rfl) ?_
    refine ent_O rfl ?_
    refine ent_O rfl ?_
    refine oST rfl rfl rfl rfl ?_
    exact ent_ret () rfl trivial (Shift.of_picks pKs)
  · refine ent_O rfl ?_
    refine ent_O rfl ?_
    refine oL rfl ?_
    refine ent_O rfl ?_
    refine ent_false ?_
    refine ent_O rfl ?_
    refine ent_O rfl ?_
    refine oL rfl ?_
    refine ent_O (v := .bool false) (by simp [nilEq]) ?_
    refine ent_false ?_
    exact ent_ret () rfl trivial (Shift.of_picks pKs)
theorem write_fn (b : Nat) (s x : ByteArray) (hs : s.size + x.size ≤ 70368744177664) :
    Ctr Try.prog 48 [pt b, .string x] [BdP b s] (fun _ : Unit => .tuple #[.int .i64 x.size, .nilIface]) (fun _ => True) (fun _ => [BdP b (s ++ x)]) := by
  refine ctr_of e48 ?_
  refine Ent.openX P0 BdP.open fun ⟨a, v⟩ ha => ?_
  unfold S48
  dsimp only [List.cons_append, List.nil_append]
  refine Ctr.use (copyCheck_fn b a v ha) pKs fun _ _ => ?_
  dsimp only [List.cons_append, List.nil_append]
  refine ent_O rfl ?_
  refine ent_O rfl ?_
  refine oL rfl ?_
  have hl : s.data.toList.length = s.size := rfl
  refine oApp (by rfl) (by rfl) (by rfl) (by rw [← flat_u8]; exact flat_ones u8 _) (by decide) (by rw [hl]; omega) fun v' => ?_
  refine oSl v' fun base cap e => ?_
  subst e
  refine ent_O rfl ?_
  refine ent_O rfl ?_
  refine oST rfl rfl rfl rfl ?_
  refine ent_O rfl ?_
  have e1 : (s ++ x).data.toList = s.data.toList ++ x.data.toList := by rw [ByteArray.data_append, Array.toList_append]
  exact ent_ret () rfl trivial (Shift.close (A := BdP b (s ++ x)) (m := [clT b 103 [pt b, .slice base (s.data.toList.length + x.size) cap],
    RowP (· = 5) 1 (.slice base (s.data.toList.length + x.size) cap) (s ++ x).data.toList.length (flat u8 (s ++ x).data.toList)])
    (by rw [e1, List.length_append, flat_append, flat_u8 x.data.toList]; exact pKs) (BdP.close (.inr rfl)))
theorem string_fn (b : Nat) (s : ByteArray) (hs : s.size ≤ 70368744177664) :
    Ctr Try.prog 49 [pt b] [BdP b s] (fun _ : Unit => .string s) (fun _ => True) (fun _ => []) := by
  refine ctr_of e49 ?_
  refine Ent.openX P0 BdP.open fun ⟨a, v⟩ ha => ?_
  unfold S49
  dsimp only [List.cons_append, List.nil_append]
  refine ent_O rfl ?_
  refine ent_O rfl ?_
  refine oL rfl ?_
  refine ent_O rfl ?_
  refine ent_O rfl ?_
  refine oL rfl ?_
  refine oLenE rfl ?_
  refine oSD (e := 5) fun p sd => ?_
  refine oA (oL rfl ent_Is) ?_
  refine oUS (t := 5) (u := 5) rfl (by have : s.data.toList.length = s.size := rfl; omega) sd (by kernel_rfl) (fun c hc hn => ?_) ?_
  · exact lies_row (d := Try.prog.depth - 1) (by kernel_rfl) (by kernel_rfl) (by kernel_rfl) hc
  · exact ent_ret () rfl trivial (Shift.of_picks pKs)
theorem data_fn (b : Nat) (F : AF) (hs : bytesN F.parts ≤ 70368744177664) (hl : F.parts.length ≤ 255) :
    Ctr Try.prog 29 [pt b] [FrP b F] (fun _ : Unit => .tuple #[.string F.data, .bool F.whole]) (fun _ => True) (fun _ => [FrP b F]) := by
  refine ctr_of e29 ?_
  unfold S29
  refine Ctr.use (whole_fn b F) pKs fun _ _ => ?_
  dsimp only [List.cons_append, List.nil_append]
  refine ent_O rfl ?_
  refine ent_VB (fun hw => ?_) fun hw => ?_
  · have hw' : F.whole = false := by simpa using hw
    have hd : F.data = ⟨#[]⟩ := by unfold AF.data; rw [hw']; rfl
    rw [hd, hw']
    exact ent_ret () rfl trivial (Shift.of_picks pKs)
  have hw' : F.whole = true := by simpa using hw
  have hd : F.data = catP F.parts := by unfold AF.data; rw [hw']; rfl
  have hh : haveN F.parts = F.parts.length := of_decide_eq_true hw'
  refine oNT fun nb => ?_
  refine Ent.rowNil (p := (· = 5)) (size := 1) ?_
  refine Ent.close pKs (BdP.close (b := nb) (s := ⟨#[]⟩) (a := .pointer none) (v := .slice none 0 0) (.inl rfl)) ?_
  refine Ent.openX (A := FrP b F) P1 FrP.open fun ⟨mb, m⟩ r => ?_
  dsimp only [List.cons_append, List.nil_append]
  (refine sTq ?_; repeat (refine bnd fun nb => ?_; refine sTq ?_))
  refine ent_VL (X := Nat) (fun i => [.int .i64 i]) (fun i => i ≤ F.parts.length) (fun i => F.parts.length - i) (fun i => [BdP nb (catP (F.parts.take i))]) 0 rfl (Nat.zero_le _) pKs fun i hi j => ?_
  dsimp only [List.cons_append, List.nil_append]
  refine ent_O rfl ?_
  refine oI (fun hlt => ?_) fun hge => ?_
  · have hlt' : i < F.parts.length := by omega
    (refine sTq ?_; repeat (refine bnd fun nb => ?_; refine sTq ?_))
    obtain ⟨s, hsome⟩ := whole_pat hh hlt'
    refine oLk1 ?_
    have hlk : alook m (i : Int) = some (.string s) := by
      rw [r.1 i]
      unfold pat
      rw [if_pos (by omega), Int.toNat_natCast, hsome]; rfl
    have hi2 : catP (F.parts.take (i + 1)) = catP (F.parts.take i) ++ s := by
      rw [List.take_succ_eq_append_getElem hlt', ← catP_snoc]
      congr 3
      rw [List.getElem?_eq_getElem hlt'] at hsome; exact Option.some.inj hsome
    have hsz : (catP (F.parts.take i)).size + s.size ≤ 70368744177664 := by
      rw [← ByteArray.size_append, ← hi2, catP_size]
      have := bytesN_take F.parts (i + 1); omega
    rw [show (alook (mb, m).2 (i : Int)).getD (.string ⟨#[]⟩) = .string s by rw [hlk]; rfl]
    refine Ctr.use (write_fn nb _ s hsz) pKs fun _ _ => ?_
    dsimp only [List.cons_append, List.nil_append]
    (refine sTq ?_; repeat (refine bnd fun nb => ?_; refine sTq ?_))
    exact ent_again (i + 1) (by rfl) (by omega) (by omega) (by rw [hi2]; exact pKs)
  · have : i = F.parts.length := by omega
    subst this
    rw [List.take_length]
    refine Ctr.use (string_fn nb (catP F.parts) (by rw [catP_size]; omega)) pKs fun _ _ => ?_
    dsimp only [List.cons_append, List.nil_append]
    rw [hd, hw']
    exact ent_ret () rfl trivial (Shift.close pKs (FrP.close r))
end Go.Proofs.Ytndanmhgbfjinaa
namespace Go.Proofs.Ytndanmhgbfjinaa
open Go Go.Sl Go.Cd
attribute [local irreducible] Try.prog cl ro mp mpI clT RowP FrP
theorem mclone_fn (mb : Nat) (m : List (Int × Value)) : Ctr Try.prog 54 [.map (some mb)] [mpI mb .i64 m] (fun nb : Nat => .map (some nb)) (fun _ => True) (fun nb => [mpI nb .i64 m, mpI mb .i64 m]) := by
  refine ctr_of e54 ?_
  unfold S54
  refine ent_O rfl ?_
  refine ent_false ?_
  refine oMkI rfl ?_
  refine cl_mclone Try.func59 rfl rfl rfl rfl (HasMC.has (l := _)) fun nb => ?_
  refine oTA rfl ?_
  exact ent_ret nb rfl trivial (Shift.of_picks pKs)
theorem clone_fn (b : Nat) (F : AF) : Ctr Try.prog 38 [pt b] [FrP b F] pt (fun _ : Nat => True) (fun nb => [FrP nb F, FrP b F]) := by
  refine ctr_of e38 ?_
  refine Ent.openX P0 FrP.open fun ⟨mb, m⟩ r => ?_
  unfold S38
  dsimp only [List.cons_append, List.nil_append]
  (refine sTq ?_; repeat (refine bnd fun nb => ?_; refine sTq ?_))
  refine Ctr.use (mclone_fn mb m) pKs fun nm _ => ?_
  (refine sTq ?_; repeat (refine bnd fun nb => ?_; refine sTq ?_))
  refine Ent.close pKs (FrP.close (b := b) (mb := mb) r) ?_
  refine Ent.close (m := [cl nb (frC F nm), mpI nm .i64 m]) pKs (FrP.close (b := nb) r) ?_
  exact ent_ret nb (by rfl) (by trivial) (Shift.of_picks pKs)
end Go.Proofs.Ytndanmhgbfjinaa
namespace Go.Cd
open Go Go.Sl
structure Cfg where
  fr : Int
  pk : Int
  by_ : Int
def clipI (n most : Int) : Int := max 1 (min n most)
def Cfg.clip (c : Cfg) : Cfg := ⟨clipI c.fr 1024, clipI c.pk 65536, clipI c.by_ 67108864⟩
structure AB where
  c : Cfg
  L : List AF
  hor : Int
  pl : Int
  dr : Int
  ev : Int
def sumH : List AF → Nat
  | [] => 0
  | F :: L => haveN F.parts + sumH L
def sumB : List AF → Nat
  | [] => 0
  | F :: L => bytesN F.parts + sumB L
def AB.new (c : Cfg) : AB := ⟨c.clip, [], -1, 0, 0, 0⟩
def over (c : Cfg) (L : List AF) : Bool := decide ((L.length : Int) > c.fr ∨ (sumH L : Int) > c.pk ∨ (sumB L : Int) > c.by_)
def insPut (t i count : Int) (s : ByteArray) (now : Int) : List AF → List AF × Int
  | [] => let r := (AF.new t count now).put i count s; ([r.1], r.2)
  | F :: L =>
    if F.time = t then let r := F.put i count s; (r.1 :: L, r.2)
    else if t < F.time then let r := (AF.new t count now).put i count s; (r.1 :: F :: L, r.2)
    else let r := insPut t i count s now L; (F :: r.1, r.2)
def wr64 (x : Int) : Int := IntKind.i64.wrap x
def evict (t : Int) (X : AB) (kind : Int) (out : List Int) : List AF → AB × Int × List Int
  | [] => (⟨X.c, [], X.hor, X.pl, X.dr, X.ev⟩, kind, out)
  | F :: L =>
    if over X.c (F :: L) then evict t ⟨X.c, L, F.time, X.pl, X.dr, wr64 (X.ev + 1)⟩ (if F.time = t then 6 else kind) (out ++ [F.time]) L
    else (⟨X.c, F :: L, X.hor, X.pl, X.dr, X.ev⟩, kind, out)
def AB.put (X : AB) (t i count : Int) (s : ByteArray) (now : Int) : AB × Int × List Int :=
  if t ≤ X.hor then (X, 5, [])
  else if count < 1 ∨ count > 255 ∨ i < 0 ∨ i ≥ count then (X, 4, [])
  else
    let r := insPut t i count s now X.L
    evict t X r.2 [] r.1
def playL (now delay most : Int) (X : AB) (out : List (Int × ByteArray)) (gone : List Int) : List AF → AB × List (Int × ByteArray) × List Int
  | [] => (⟨X.c, [], X.hor, X.pl, X.dr, X.ev⟩, out, gone)
  | F :: L =>
    if F.whole ∧ wr64 (now - F.first) ≥ delay then playL now delay most ⟨X.c, L, F.time, wr64 (X.pl + 1), X.dr, X.ev⟩ (out ++ [(F.time, F.data)]) gone L
    else if wr64 (now - F.first) ≥ most then playL now delay most ⟨X.c, L, F.time, X.pl, wr64 (X.dr + 1), X.ev⟩ out (gone ++ [F.time]) L
    else (⟨X.c, F :: L, X.hor, X.pl, X.dr, X.ev⟩, out, gone)
def AB.play (X : AB) (now delay most : Int) : AB × List (Int × ByteArray) × List Int := playL now delay most X [] [] X.L
structure AB.Ok (X : AB) : Prop where
  fr : 1 ≤ X.c.fr ∧ X.c.fr ≤ 1024
  pk : 1 ≤ X.c.pk ∧ X.c.pk ≤ 65536
  by_ : 1 ≤ X.c.by_ ∧ X.c.by_ ≤ 67108864
  rise : X.L.Pairwise fun F G => F.time < G.time
  time : ∀ F ∈ X.L, X.hor < F.time ∧ 0 ≤ F.time ∧ F.time ≤ 4294967295
  parts : ∀ F ∈ X.L, F.parts.length ≤ 255
  over : over X.c X.L = false
end Go.Cd
namespace Go.Proofs.Ytndanmhgbfjinaa
open Go Go.Sl Go.Cd
attribute [local irreducible] Try.prog cl ro mp mpI clT RowP FrP Big
def bufR (c : Cfg) (t1 t2 t3 : Int) (v : Value) (hor pl dr ev : Int) : List Value :=
  [.int .i64 c.fr, .int .i64 c.pk, .int .i64 c.by_, .int .i64 t1, .int .i64 t2, .int .i64 t3, v, .int .i64 hor, .int .i64 pl, .int .i64 dr, .int .i64 ev]
def ptE (p : Nat × AF) : List Value := [pt p.1]
instance : Sized ptE 1 := ⟨fun _ => rfl, fun _ => rfl⟩
abbrev FrE (p : Nat × AF) : Asn := FrP p.1 p.2
def BufP (b : Nat) (X : AB) : Asn := fun h => ∃ q : Value × List (Nat × AF), q.2.map Prod.snd = X.L ∧
  Star [cl b (bufR X.c X.L.length (sumH X.L) (sumB X.L) q.1 X.hor X.pl X.dr X.ev), Rw ptE q.1 q.2, Big FrE q.2] h
theorem BufP.open {b : Nat} {X : AB} (h : PH) (a : BufP b X h) : ∃ q : Value × List (Nat × AF), q.2.map Prod.snd = X.L ∧
  Star [cl b (bufR X.c X.L.length (sumH X.L) (sumB X.L) q.1 X.hor X.pl X.dr X.ev), Rw ptE q.1 q.2, Big FrE q.2] h := a
theorem BufP.close {b : Nat} {X : AB} {v : Value} {ps : List (Nat × AF)} (e : ps.map Prod.snd = X.L) (h : PH)
    (s : Star [cl b (bufR X.c X.L.length (sumH X.L) (sumB X.L) v X.hor X.pl X.dr X.ev), Rw ptE v ps, Big FrE ps] h) : BufP b X h := ⟨(v, ps), e, s⟩
theorem clip_fn (n most : Int) : Ctr Try.prog 31 [.int .i64 n, .int .i64 most] [] (fun _ : Unit => .int .i64 (clipI n most)) (fun _ => True) (fun _ => []) := by
  refine ctr_of e31 ?_
  unfold S31
  refine ent_O rfl ?_
  refine ent_O rfl ?_
  refine ent_ret () ?_ trivial (Shift.of_picks pKs)
  congr 1
  unfold clipI
  split <;> split <;> omega
theorem Clip_fn (c : Cfg) : Ctr Try.prog 16 [.agg #[.int .i64 c.fr, .int .i64 c.pk, .int .i64 c.by_]] [] (fun _ : Unit => .agg #[.int .i64 c.clip.fr, .int .i64 c.clip.pk, .int .i64 c.clip.by_]) (fun _ => True) (fun _ => []) := by
  refine ctr_of e16 ?_
  unfold S16
  (refine sTq ?_; repeat (refine bnd fun nb => ?_; refine sTq ?_))
  refine Ctr.use (clip_fn c.fr 1024) pKs fun _ _ => ?_
  (refine sTq ?_; repeat (refine bnd fun nb => ?_; refine sTq ?_))
  refine Ctr.use (clip_fn c.pk 65536) pKs fun _ _ => ?_
  (refine sTq ?_; repeat (refine bnd fun nb => ?_; refine sTq ?_))
  refine Ctr.use (clip_fn c.by_ 67108864) pKs fun _ _ => ?_
  (refine sTq ?_; repeat (refine bnd fun nb => ?_; refine sTq ?_))
  exact ent_ret () rfl trivial (Shift.of_picks pKs)
theorem bnew_fn (c : Cfg) : Ctr Try.prog 8 [.agg #[.int .i64 c.fr, .int .i64 c.pk, .int .i64 c.by_]] [] pt (fun _ : Nat => True) (fun b => [BufP b (AB.new c)]) := by
  refine ctr_of e8 ?_
  unfold S8
  (refine sTq ?_; repeat (refine bnd fun nb => ?_; refine sTq ?_))
  refine Ctr.use (Clip_fn c) pKs fun _ _ => ?_
  (try dsimp only [List.cons_append, List.nil_append])
  refine ent_O rfl ?_
  refine oN fun b => ?_
  refine oNil ptE ?_
  refine Ent.bigNil FrE ?_
  exact ent_ret b (by rfl) (by trivial) (Shift.close (m := [cl b (bufR c.clip 0 0 0 (.slice none 0 0) (-1) 0 0 0), Rw ptE (.slice none 0 0) [], Big FrE []]) pKs (BufP.close (b := b) (X := AB.new c) (v := .slice none 0 0) (ps := []) rfl))
theorem add_fn (b p : Nat) (F : AF) (c : Cfg) (t1 t2 t3 : Int) (v : Value) (hor pl dr ev sg : Int) (h1 : -1000000000000000 ≤ t1 ∧ t1 ≤ 1000000000000000) (h2 : -1000000000000000 ≤ t2 ∧ t2 ≤ 1000000000000000) (h3 : -1000000000000000 ≤ t3 ∧ t3 ≤ 1000000000000000)
    (hF : F.parts.length ≤ 255) (hB : bytesN F.parts ≤ 70368744177664) (hs : sg = 1 ∨ sg = -1) :
    Ctr Try.prog 24 [.pointer (some ⟨b, 3, none⟩), pt p, .int .i64 sg] [cl b (bufR c t1 t2 t3 v hor pl dr ev), FrP p F] (fun _ : Unit => .tuple #[]) (fun _ => True)
      (fun _ => [cl b (bufR c (t1 + sg) (t2 + sg * haveN F.parts) (t3 + sg * bytesN F.parts) v hor pl dr ev), FrP p F]) := by
  refine ctr_of e24 ?_
  unfold S24
  have hh := haveN_le F.parts
  have hm1 : -255 ≤ sg * haveN F.parts ∧ sg * haveN F.parts ≤ 255 := by rcases hs with rfl | rfl <;> omega
  have hm2 : -70368744177664 ≤ sg * bytesN F.parts ∧ sg * bytesN F.parts ≤ 70368744177664 := by rcases hs with rfl | rfl <;> omega
  refine ent_O rfl ?_
  refine ent_O rfl ?_
  refine oL rfl ?_
  refine oAdd (by omega) (by omega) ?_
  (refine sTq ?_; repeat (refine bnd fun nb => ?_; refine sTq ?_))
  refine Ctr.use (have_fn p F) pKs fun _ _ => ?_
  (refine sTq ?_; repeat (refine bnd fun nb => ?_; refine sTq ?_))
  (refine sTq ?_; repeat (refine bnd fun nb => ?_; refine sTq ?_))
  refine Ctr.use (bytes_fn p F) pKs fun _ _ => ?_
  (refine sTq ?_; repeat (refine bnd fun nb => ?_; refine sTq ?_))
  (refine sTq ?_; repeat (refine bnd fun nb => ?_; refine sTq ?_))
  exact ent_ret () rfl trivial (Shift.of_picks pKs)
end Go.Proofs.Ytndanmhgbfjinaa
namespace Go.Proofs.Ytndanmhgbfjinaa
open Go Go.Sl Go.Cd
attribute [local irreducible] Try.prog cl ro mp mpI clT RowP FrP Big
theorem over_fn (b : Nat) (c : Cfg) (t1 t2 t3 : Int) (v : Value) (hor pl dr ev : Int) :
    Ctr Try.prog 26 [pt b] [cl b (bufR c t1 t2 t3 v hor pl dr ev)] (fun _ : Unit => .bool (decide (t1 > c.fr ∨ t2 > c.pk ∨ t3 > c.by_))) (fun _ => True) (fun _ => [cl b (bufR c t1 t2 t3 v hor pl dr ev)]) := by
  refine ctr_of e26 ?_
  unfold S26
  (refine sTq ?_; repeat (refine bnd fun nb => ?_; refine sTq ?_))
  refine oI (fun h1 => ?_) fun h1 => ?_
  · exact ent_ret () (by simp [h1]) trivial (Shift.of_picks pKs)
  (refine sTq ?_; repeat (refine bnd fun nb => ?_; refine sTq ?_))
  refine oI (fun h2 => ?_) fun h2 => ?_
  · exact ent_ret () (by simp [h2]) trivial (Shift.of_picks pKs)
  (refine sTq ?_; repeat (refine bnd fun nb => ?_; refine sTq ?_))
  exact ent_ret () (by simp [h1, h2]) trivial (Shift.of_picks pKs)
theorem delete_fn (v : Value) (ps : List (Nat × AF)) (i j : Int) (h0 : 0 ≤ i) (h1 : i ≤ j) (h2 : j ≤ ps.length) :
    Ctr Try.prog 47 [v, .int .i64 i, .int .i64 j] [Rw ptE v ps] (fun v : Value => v) (fun _ => True) (fun v => [Rw ptE v (ps.take i.toNat ++ ps.drop j.toNat)]) := by
  refine ctr_of e47 ?_
  have key : ∀ K : Value → Asn, (∀ v, Ent [Rw ptE v (ps.take i.toNat ++ ps.drop j.toNat)] (K v)) → Ent [Rw ptE v ps] (S47 Try.prog v (.int .i64 i) (.int .i64 j) K) := fun K q =>
    del_ok (P := Try.prog) (T := 63) (size := 1) (f := ptE) UndC.und (InfC.inf (P := Try.prog) (t := 66)) rfl rfl rfl h0 h1 h2 P0 q
  exact key _ fun v => ent_ret v (by rfl) (by trivial) (Shift.of_picks pKs)
theorem pop_fn (b : Nat) (X : AB) (F : AF) (L : List AF) (hL : X.L = F :: L) (hl : X.L.length ≤ 100000) (hH : sumH X.L ≤ 1000000000) (hB : sumB X.L ≤ 70368744177664) (hF : F.parts.length ≤ 255) (ht : 0 ≤ F.time ∧ F.time ≤ 4294967295) :
    Ctr Try.prog 27 [pt b] [BufP b X] pt (fun _ : Nat => True) (fun p => [BufP b ⟨X.c, L, F.time, X.pl, X.dr, X.ev⟩, FrP p F]) := by
  refine ctr_of e27 ?_
  refine Ent.openX P0 BufP.open fun ⟨v, ps⟩ he => ?_
  unfold S27
  dsimp only at he ⊢
  rw [hL] at he
  obtain ⟨⟨p, F'⟩, qs, rfl⟩ : ∃ x qs, ps = x :: qs := by
    cases ps with
    | nil => simp at he
    | cons x qs => exact ⟨x, qs, rfl⟩
  simp only [List.map_cons, List.cons.injEq] at he
  obtain ⟨e1, e2⟩ := he
  subst e1
  (refine sTq ?_; repeat (refine bnd fun nb => ?_; refine sTq ?_))
  refine oAt (f := ptE) (xs := (p, F') :: qs) rfl (by decide) rfl rfl ?_
  (refine sTq ?_; repeat (refine bnd fun nb => ?_; refine sTq ?_))
  refine Ctr.use (delete_fn v ((p, F') :: qs) 0 1 (by decide) (by decide) (by simp only [List.length_cons]; omega)) pKs fun v' _ => ?_
  (try dsimp only [List.cons_append, List.nil_append])
  rw [show ((p, F') :: qs).take (0 : Int).toNat ++ ((p, F') :: qs).drop (1 : Int).toNat = qs from rfl]
  refine oSl v' fun base cap e => ?_
  subst e
  refine Ent.bigTake (p, F') (ys := qs) P2 (List.Perm.refl _) ?_
  (refine sTq ?_; repeat (refine bnd fun nb => ?_; refine sTq ?_))
  refine Ctr.use (add_fn b p F' X.c X.L.length (sumH X.L) (sumB X.L) (.slice base qs.length cap) X.hor X.pl X.dr X.ev (-1) (by omega) (by omega) (by omega) hF ?_ (.inr rfl)) pKs fun _ _ => ?_
  · rw [hL] at hB; simp only [sumB] at hB; omega
  (refine sTq ?_; repeat (refine bnd fun nb => ?_; refine sTq ?_))
  refine Ctr.use (time_fn p F') pKs fun _ _ => ?_
  (try dsimp only [List.cons_append, List.nil_append])
  refine oCv (by omega) (by omega) ?_
  (refine sTq ?_; repeat (refine bnd fun nb => ?_; refine sTq ?_))
  have hc : bufR X.c L.length (sumH L) (sumB L) (.slice base qs.length cap) F'.time X.pl X.dr X.ev
      = bufR X.c (X.L.length + -1) ((sumH X.L : Int) + -1 * haveN F'.parts) ((sumB X.L : Int) + -1 * bytesN F'.parts) (.slice base qs.length cap) F'.time X.pl X.dr X.ev := by
    rw [hL]
    simp only [sumH, sumB, List.length_cons]
    congr 2 <;> (congr 1; omega)
  refine Ent.close (m := [cl b (bufR X.c L.length (sumH L) (sumB L) (.slice base qs.length cap) F'.time X.pl X.dr X.ev), Rw ptE (.slice base qs.length cap) qs, Big FrE qs]) (by rw [hc]; exact pKs)
    (BufP.close (b := b) (X := ⟨X.c, L, F'.time, X.pl, X.dr, X.ev⟩) e2) ?_
  exact ent_ret p (by rfl) (by trivial) (Shift.of_picks pKs)
end Go.Proofs.Ytndanmhgbfjinaa
namespace Go.Cd
open Go Go.Sl
def cmp3 (a b : Int) : Int := if a < b then -1 else if a > b then 1 else 0
variable {α : Type}
def posT (f : α → Int) (t : Int) : List α → Nat
  | [] => 0
  | x :: l => if f x < t then posT f t l + 1 else 0
theorem posT_le (f : α → Int) (t : Int) (l : List α) : posT f t l ≤ l.length := by
  induction l with
  | nil => exact Nat.le_refl _
  | cons x l ih => simp only [posT]; split <;> simp <;> omega
theorem posT_lo (f : α → Int) (t : Int) (l : List α) (k : Nat) (y : α) (h : l[k]? = some y) (hk : k < posT f t l) : f y < t := by
  induction l generalizing k with
  | nil => simp at h
  | cons x l ih =>
    simp only [posT] at hk
    split at hk
    · cases k with
      | zero => simp at h; subst h; assumption
      | succ k => simp only [List.getElem?_cons_succ] at h; exact ih k h (by omega)
    · omega
theorem posT_hi (f : α → Int) (t : Int) (l : List α) (hs : l.Pairwise fun a b => f a < f b) (k : Nat) (y : α) (h : l[k]? = some y) (hk : posT f t l ≤ k) : t ≤ f y := by
  induction l generalizing k with
  | nil => simp at h
  | cons x l ih =>
    simp only [posT] at hk
    rw [List.pairwise_cons] at hs
    split at hk
    · cases k with
      | zero => omega
      | succ k => simp only [List.getElem?_cons_succ] at h; exact ih hs.2 k h (by omega)
    · cases k with
      | zero => simp at h; subst h; omega
      | succ k =>
        simp only [List.getElem?_cons_succ] at h
        have := hs.1 y (List.mem_of_getElem? h)
        omega
def withT (t count now : Int) (L : List AF) : List AF × Nat :=
  let k := posT AF.time t L
  match L[k]? with
  | some F => if F.time = t then (L, k) else (L.take k ++ AF.new t count now :: L.drop k, k)
  | none => (L.take k ++ AF.new t count now :: L.drop k, k)
theorem posT_map (g : α → AF) (t : Int) (l : List α) : posT AF.time t (l.map g) = posT (fun x => (g x).time) t l := by
  induction l with
  | nil => rfl
  | cons x l ih => simp only [List.map_cons, posT, ih]
theorem withT_yes {t count now : Int} {L : List AF} {F : AF} (h : L[posT AF.time t L]? = some F) (e : F.time = t) : withT t count now L = (L, posT AF.time t L) := by
  simp [withT, h, e]
theorem withT_no {t count now : Int} {L : List AF} (h : ∀ F, L[posT AF.time t L]? = some F → F.time ≠ t) :
    withT t count now L = (L.take (posT AF.time t L) ++ AF.new t count now :: L.drop (posT AF.time t L), posT AF.time t L) := by
  unfold withT
  cases hk : L[posT AF.time t L]? with
  | none => simp only [hk]
  | some F => simp only [hk, h F hk, if_false]
theorem ins_at (L : List α) (k : Nat) (hk : k ≤ L.length) (G : α) : (L.take k ++ G :: L.drop k)[k]? = some G := by
  rw [List.getElem?_append_right (by rw [List.length_take]; omega), List.length_take, Nat.min_eq_left hk]; simp
theorem withT_at (t count now : Int) (L : List AF) : ∃ F, (withT t count now L).1[(withT t count now L).2]? = some F ∧ F.time = t := by
  have hk := posT_le AF.time t L
  by_cases h : ∃ F, L[posT AF.time t L]? = some F ∧ F.time = t
  · obtain ⟨F, h1, h2⟩ := h
    rw [withT_yes h1 h2]; exact ⟨F, h1, h2⟩
  · rw [withT_no fun F h1 h2 => h ⟨F, h1, h2⟩]
    exact ⟨_, ins_at L _ hk _, rfl⟩
theorem insPut_eq (t i count : Int) (s : ByteArray) (now : Int) (L : List AF) (hs : L.Pairwise fun a b => a.time < b.time) {F : AF} (hF : (withT t count now L).1[(withT t count now L).2]? = some F) :
    insPut t i count s now L = ((withT t count now L).1.set (withT t count now L).2 (F.put i count s).1, (F.put i count s).2) := by
  induction L with
  | nil => simp [withT, posT] at hF; subst hF; simp [insPut, withT, posT]
  | cons G L ih =>
    rw [List.pairwise_cons] at hs
    by_cases h1 : G.time < t
    · have e : withT t count now (G :: L) = (G :: (withT t count now L).1, (withT t count now L).2 + 1) := by
        unfold withT
        simp only [posT, h1, if_true, List.getElem?_cons_succ, List.take_succ_cons, List.drop_succ_cons, List.cons_append]
        cases h : L[posT AF.time t L]? with
        | none => rfl
        | some F' => dsimp only; split <;> rfl
      rw [e] at hF ⊢
      simp only [List.getElem?_cons_succ] at hF
      simp only [insPut, ih hs.2 hF, List.set_cons_succ]
      rw [if_neg (by omega), if_neg (by omega)]
    · have e0 : posT AF.time t (G :: L) = 0 := by simp [posT, h1]
      by_cases h2 : G.time = t
      · have e : withT t count now (G :: L) = (G :: L, 0) := by simp [withT, e0, h2]
        rw [e] at hF ⊢
        simp at hF; subst hF
        simp [insPut, h2]
      · have e : withT t count now (G :: L) = (AF.new t count now :: G :: L, 0) := by simp [withT, e0, h2]
        rw [e] at hF ⊢
        simp at hF; subst hF
        simp only [insPut, h2, if_false]
        rw [if_pos (by omega)]; rfl
end Go.Cd
namespace Go.Proofs.Ytndanmhgbfjinaa
open Go Go.Sl Go.Cd
attribute [local irreducible] Try.prog cl ro mp mpI clT RowP FrP Big
theorem isNaN_fn (a : Int) : Ctr Try.prog 55 [.int .u32 a] [] (fun _ : Unit => .bool false) (fun _ => True) (fun _ => []) := by
  refine ctr_of e55 ?_
  unfold S55
  (refine sTq ?_; repeat (refine bnd fun nb => ?_; refine sTq ?_))
  exact ent_ret () (by simp) trivial (Shift.of_picks pKs)
theorem compare_fn (a b : Int) : Ctr Try.prog 41 [.int .u32 a, .int .u32 b] [] (fun _ : Unit => .int .i64 (cmp3 a b)) (fun _ => True) (fun _ => []) := by
  refine ctr_of e41 ?_
  unfold S41
  refine Ctr.use (isNaN_fn a) pKs fun _ _ => ?_
  refine Ctr.use (isNaN_fn b) pKs fun _ _ => ?_
  (try dsimp only [List.cons_append, List.nil_append])
  refine ent_false ?_
  refine ent_false ?_
  (refine sTq ?_; repeat (refine bnd fun nb => ?_; refine sTq ?_))
  refine oI (fun h => ?_) fun h => ?_
  · exact ent_ret () (by simp [cmp3, h]) trivial (Shift.of_picks pKs)
  (refine sTq ?_; repeat (refine bnd fun nb => ?_; refine sTq ?_))
  refine oI (fun h2 => ?_) fun h2 => ?_
  · exact ent_ret () (by simp only [cmp3]; rw [if_neg h, if_pos h2]) trivial (Shift.of_picks pKs)
  · exact ent_ret () (by simp only [cmp3]; rw [if_neg h, if_neg h2]) trivial (Shift.of_picks pKs)
theorem frameCmp_fn (x : Nat × AF) (t : Int) : Ctr Try.prog 40 [pt x.1, .int .u32 t] [FrE x] (fun _ : Unit => .int .i64 (cmp3 x.2.time t)) (fun _ => True) (fun _ => [FrE x]) := by
  refine ctr_of e40 ?_
  unfold S40
  refine Ctr.use (time_fn x.1 x.2) pKs fun _ _ => ?_
  refine Ctr.use (compare_fn x.2.time t) pKs fun _ _ => ?_
  exact ent_ret () rfl trivial (Shift.of_picks pKs)
theorem search_fn (v : Value) (ps : List (Nat × AF)) (t : Int) (hn : ps.length ≤ 100000) (hs : ps.Pairwise fun a b => a.2.time < b.2.time) :
    Ctr Try.prog 39 [v, .int .u32 t, .func (.func 40) #[] #[]] [Rw ptE v ps, Big FrE ps]
      (fun _ : Unit => .tuple #[.int .i64 (posT (fun x : Nat × AF => x.2.time) t ps), .bool (hit (fun x : Nat × AF => cmp3 x.2.time t) ps[posT (fun x : Nat × AF => x.2.time) t ps]?)])
      (fun _ => True) (fun _ => [Rw ptE v ps, Big FrE ps]) := by
  refine ctr_of e39 ?_
  have key : ∀ K : Value → Asn, Ent [Rw ptE v ps, Big FrE ps] (K (.tuple #[.int .i64 (posT (fun x : Nat × AF => x.2.time) t ps), .bool (hit (fun x : Nat × AF => cmp3 x.2.time t) ps[posT (fun x : Nat × AF => x.2.time) t ps]?)])) →
      Ent [Rw ptE v ps, Big FrE ps] (S39 Try.prog v (.int .u32 t) (.func (.func 40) #[] #[]) K) := fun K q =>
    bs_ok (P := Try.prog) (size := 1) (m := none) (f := ptE) (xs := ps) HasR.row rfl (by omega) (fun x => pt x.1) (fun _ => rfl) (fun x => cmp3 x.2.time t)
      (fun k y hk K q => by
        show Ent _ (Cl Try.prog 40 [pt y.1, .int .u32 t] K)
        refine Ctr.useAt (A := FrE) (frameCmp_fn y t) P1 hk fun _ _ => ?_
        exact Ent.perm (l' := [Rw ptE v ps, Big FrE ps]) (R := []) pKs q)
      _ (posT_le _ t ps)
      (fun k y hk h => by have := posT_lo _ t ps k y hk h; simp only [cmp3]; rw [if_pos this]; decide)
      (fun k y hk h => by have := posT_hi _ t ps hs k y hk h; simp only [cmp3]; rw [if_neg (by omega)]; split <;> decide) q
  exact key _ (ent_ret () rfl trivial (Shift.of_picks pKs))
theorem insert_fn (v : Value) (ps : List (Nat × AF)) (i : Int) (x : Nat × AF) (bv : Nat) (h0 : 0 ≤ i) (h1 : i ≤ ps.length) (hn : ps.length ≤ 100000) :
    Ctr Try.prog 43 [v, .int .i64 i, .slice (some ⟨bv, 0, none⟩) 1 1] [Rw ptE v ps, cl bv (ptE x)] (fun v : Value => v) (fun _ => True) (fun v => [Rw ptE v (ps.take i.toNat ++ x :: ps.drop i.toNat)]) := by
  refine ctr_of e43 ?_
  have key : ∀ K : Value → Asn, (∀ v, Ent [Rw ptE v (ps.take i.toNat ++ x :: ps.drop i.toNat)] (K v)) →
      Ent [Rw ptE v ps, cl bv (ptE x)] (S43 Try.prog v (.int .i64 i) (.slice (some ⟨bv, 0, none⟩) 1 1) K) := fun K q =>
    ins_ok (P := Try.prog) (T := 63) (Ti := 3) (size := 1) (f := ptE) (fo := 56) (fr := 57) UndC.und UndC.und (InfC.inf (P := Try.prog) (t := 66)) rfl rfl (by decide) (by omega) h0 h1 P0 P0
      (fun p pv q => let ⟨i, hi, _⟩ := InfC.inf (P := Try.prog) (t := 66); cl_overlaps (t := 63) Try.func56 rfl rfl (by kernel_rfl) (by kernel_rfl) rfl UndC.und hi p pv q) q
  exact key _ fun v => ent_ret v (by rfl) (by trivial) (Shift.of_picks pKs)
end Go.Proofs.Ytndanmhgbfjinaa
namespace Go.Proofs.Ytndanmhgbfjinaa
open Go Go.Sl Go.Cd
attribute [local irreducible] Try.prog cl ro mp mpI clT RowP FrP Big
theorem sumH_append (a b : List AF) : sumH (a ++ b) = sumH a + sumH b := by
  induction a with
  | nil => simp [sumH]
  | cons F a ih => simp [sumH, ih, Nat.add_assoc]
theorem sumB_append (a b : List AF) : sumB (a ++ b) = sumB a + sumB b := by
  induction a with
  | nil => simp [sumB]
  | cons F a ih => simp [sumB, ih, Nat.add_assoc]
theorem cmp3_zero {a b : Int} : cmp3 a b = 0 ↔ a = b := by
  unfold cmp3
  split
  · omega
  · split <;> omega
theorem hit_iff (t : Int) (o : Option (Nat × AF)) : hit (fun x : Nat × AF => cmp3 x.2.time t) o = true ↔ ∃ x, o = some x ∧ x.2.time = t := by
  cases o with
  | none => simp [hit]
  | some x =>
    show decide (cmp3 x.2.time t = 0) = true ↔ _
    rw [decide_eq_true_eq, cmp3_zero]
    simp
def bufL (X : AB) (L : List AF) (v : Value) : List Value := bufR X.c L.length (sumH L) (sumB L) v X.hor X.pl X.dr X.ev
theorem frame_fn (b : Nat) (X : AB) (t count now : Int) (hl : X.L.length ≤ 10000) (hH : sumH X.L ≤ 1000000000) (hB : sumB X.L ≤ 70368744177664) (hs : X.L.Pairwise fun a b => a.time < b.time) :
    Ctr Try.prog 23 [pt b, .int .u32 t, .int .i64 count, .int .i64 now] [BufP b X] (fun x : (Value × List (Nat × AF)) × Nat => pt x.2)
      (fun x => x.1.2.map Prod.snd = (withT t count now X.L).1 ∧ ∃ F, x.1.2[(withT t count now X.L).2]? = some (x.2, F))
      (fun x => [cl b (bufL X (withT t count now X.L).1 x.1.1), Rw ptE x.1.1 x.1.2, Big FrE x.1.2]) := by
  refine ctr_of e23 ?_
  refine Ent.openX P0 BufP.open fun ⟨v, ps⟩ he => ?_
  unfold S23
  dsimp only at he ⊢
  have hpl : ps.length = X.L.length := by rw [← he, List.length_map]
  have hps : ps.Pairwise fun a b => a.2.time < b.2.time := by rw [← he, List.pairwise_map] at hs; exact hs
  have hpos : posT (fun x : Nat × AF => x.2.time) t ps = posT AF.time t X.L := by rw [← he, posT_map]
  have hk := posT_le AF.time t X.L
  (refine sTq ?_; repeat (refine bnd fun nb => ?_; refine sTq ?_))
  refine Ctr.use (search_fn v ps t (by omega) hps) pKs fun _ _ => ?_
  (try dsimp only [List.cons_append, List.nil_append])
  rw [hpos]
  refine ent_O rfl ?_
  refine ent_O rfl ?_
  generalize hkk : posT AF.time t X.L = k at hk
  have hw2 : (withT t count now X.L).2 = k := by
    by_cases h : ∃ F, X.L[posT AF.time t X.L]? = some F ∧ F.time = t
    · obtain ⟨F, h1, h2⟩ := h; rw [withT_yes h1 h2]; exact hkk
    · rw [withT_no fun F h1 h2 => h ⟨F, h1, h2⟩]; exact hkk
  refine ent_VJ (X := Value × List (Nat × AF)) (fun _ => []) (fun x => x.2.map Prod.snd = (withT t count now X.L).1) (fun x => [cl b (bufL X (withT t count now X.L).1 x.1), Rw ptE x.1 x.2, Big FrE x.2]) ?_ ?_
  · refine ent_O rfl ?_
    refine ent_VB (fun hn => ?_) fun hy => ?_
    · have hno : ∀ F, X.L[posT AF.time t X.L]? = some F → F.time ≠ t := by
        intro F hF e
        rw [hkk] at hF
        have : hit (fun x : Nat × AF => cmp3 x.2.time t) ps[k]? = true := by
          rw [hit_iff]
          rw [← he, List.getElem?_map] at hF
          cases hp : ps[k]? with
          | none => rw [hp] at hF; cases hF
          | some x => rw [hp] at hF; simp at hF; exact ⟨x, rfl, by rw [hF]; exact e⟩
        rw [this] at hn; cases hn
      have hw := withT_no (count := count) (now := now) hno
      rw [hkk] at hw
      refine Ctr.use (new_fn t count now) pKs fun p _ => ?_
      (refine sTq ?_; repeat (refine bnd fun nb => ?_; refine sTq ?_))
      refine ent_BS rfl fun nb => ?_
      refine Ctr.use (insert_fn v ps k (p, AF.new t count now) nb (by omega) (by omega) (by omega)) pKs fun v' _ => ?_
      (try dsimp only [List.cons_append, List.nil_append])
      refine oSl v' fun base cap e => ?_
      subst e
      (refine sTq ?_; repeat (refine bnd fun nb => ?_; refine sTq ?_))
      have hnew : haveN (AF.new t count now).parts = 0 := haveN_replicate _
      have hnew2 : bytesN (AF.new t count now).parts = 0 := bytesN_replicate _
      refine Ctr.use (add_fn b p (AF.new t count now) X.c X.L.length (sumH X.L) (sumB X.L) _ X.hor X.pl X.dr X.ev 1 (by omega) (by omega) (by omega) (by simp only [AF.new, List.length_replicate]; omega) (by rw [hnew2]; omega) (.inl rfl)) pKs fun _ _ => ?_
      (try dsimp only [List.cons_append, List.nil_append])
      rw [Int.toNat_natCast]
      refine Ent.bigPut (A := FrE) (xs := ps.take k ++ (p, AF.new t count now) :: ps.drop k) (p, AF.new t count now) pKs (perm_ins ps k _) ?_
      have hc : bufL X (withT t count now X.L).1 (.slice base (ps.take k ++ (p, AF.new t count now) :: ps.drop k).length cap) =
          bufR X.c (X.L.length + 1) ((sumH X.L : Int) + 1 * haveN (AF.new t count now).parts) ((sumB X.L : Int) + 1 * bytesN (AF.new t count now).parts)
            (.slice base (ps.take k ++ (p, AF.new t count now) :: ps.drop k).length cap) X.hor X.pl X.dr X.ev := by
        rw [hw, hnew, hnew2]
        have e1 : sumH (X.L.take k ++ AF.new t count now :: X.L.drop k) = sumH X.L := by
          rw [sumH_append]; simp only [sumH, hnew, Nat.zero_add]; rw [← sumH_append, List.take_append_drop]
        have e2 : sumB (X.L.take k ++ AF.new t count now :: X.L.drop k) = sumB X.L := by
          rw [sumB_append]; simp only [sumB, hnew2, Nat.zero_add]; rw [← sumB_append, List.take_append_drop]
        have e3 : (X.L.take k ++ AF.new t count now :: X.L.drop k).length = X.L.length + 1 := by
          rw [List.length_append, List.length_take, List.length_cons, List.length_drop]; omega
        unfold bufL
        rw [e1, e2, e3]
        congr 1
      exact ent_join (.slice base (ps.take k ++ (p, AF.new t count now) :: ps.drop k).length cap, ps.take k ++ (p, AF.new t count now) :: ps.drop k) (by rfl) (by rw [hw, ← he]; simp [List.map_take, List.map_drop]) (by dsimp only; rw [hc]; exact pKs)
    · have hh : hit (fun x : Nat × AF => cmp3 x.2.time t) ps[k]? = true := by simpa using hy
      obtain ⟨x, hx, hxt⟩ := (hit_iff t _).1 hh
      have hw : withT t count now X.L = (X.L, k) := by
        have := withT_yes (count := count) (now := now) (L := X.L) (F := x.2) (t := t) (by rw [hkk, ← he, List.getElem?_map, hx]; rfl) hxt
        rw [hkk] at this; exact this
      exact ent_join (v, ps) (by rfl) (by rw [hw]; exact he) (by dsimp only; rw [hw]; exact pKs)
  · rintro ⟨v', ps'⟩ he' j
    dsimp only at he' ⊢
    obtain ⟨F, hF, hFt⟩ := withT_at t count now X.L
    rw [hw2, ← he', List.getElem?_map] at hF
    cases hp : ps'[k]? with
    | none => rw [hp] at hF; cases hF
    | some x =>
      obtain ⟨p, F'⟩ := x
      unfold bufL
      (refine sTq ?_; repeat (refine bnd fun nb => ?_; refine sTq ?_))
      refine oAt (f := ptE) (xs := ps') rfl (by omega) (by rw [Int.toNat_natCast]; exact hp) rfl ?_
      exact ent_ret ((v', ps'), p) (by rfl) ⟨he', F', by rw [hw2]; exact hp⟩ (Shift.of_picks pKs)
end Go.Proofs.Ytndanmhgbfjinaa
namespace Go.Proofs.Ytndanmhgbfjinaa
open Go Go.Sl Go.Cd
attribute [local irreducible] Try.prog cl ro mp mpI clT RowP FrP Big
theorem packets_fn (b : Nat) (X : AB) : Ctr Try.prog 20 [pt b] [BufP b X] (fun _ : Unit => .int .i64 (sumH X.L)) (fun _ => True) (fun _ => [BufP b X]) := by
  refine ctr_of e20 ?_
  refine Ent.openX P0 BufP.open fun ⟨v, ps⟩ he => ?_
  unfold S20
  dsimp only at he ⊢
  (refine sTq ?_; repeat (refine bnd fun nb => ?_; refine sTq ?_))
  exact ent_ret () rfl trivial (Shift.close pKs (BufP.close (b := b) he))
theorem bbytes_fn (b : Nat) (X : AB) : Ctr Try.prog 21 [pt b] [BufP b X] (fun _ : Unit => .int .i64 (sumB X.L)) (fun _ => True) (fun _ => [BufP b X]) := by
  refine ctr_of e21 ?_
  refine Ent.openX P0 BufP.open fun ⟨v, ps⟩ he => ?_
  unfold S21
  dsimp only at he ⊢
  (refine sTq ?_; repeat (refine bnd fun nb => ?_; refine sTq ?_))
  exact ent_ret () rfl trivial (Shift.close pKs (BufP.close (b := b) he))
theorem horizon_fn (b : Nat) (X : AB) : Ctr Try.prog 14 [pt b] [BufP b X] (fun _ : Unit => .int .i64 X.hor) (fun _ => True) (fun _ => [BufP b X]) := by
  refine ctr_of e14 ?_
  refine Ent.openX P0 BufP.open fun ⟨v, ps⟩ he => ?_
  unfold S14
  dsimp only at he ⊢
  (refine sTq ?_; repeat (refine bnd fun nb => ?_; refine sTq ?_))
  exact ent_ret () rfl trivial (Shift.close pKs (BufP.close (b := b) he))
theorem counts_fn (b : Nat) (X : AB) : Ctr Try.prog 37 [pt b] [BufP b X] (fun _ : Unit => .tuple #[.int .i64 X.pl, .int .i64 X.dr, .int .i64 X.ev]) (fun _ => True) (fun _ => [BufP b X]) := by
  refine ctr_of e37 ?_
  refine Ent.openX P0 BufP.open fun ⟨v, ps⟩ he => ?_
  unfold S37
  dsimp only at he ⊢
  (refine sTq ?_; repeat (refine bnd fun nb => ?_; refine sTq ?_))
  exact ent_ret () rfl trivial (Shift.close pKs (BufP.close (b := b) he))
theorem len_fn (b : Nat) (X : AB) : Ctr Try.prog 11 [pt b] [BufP b X] (fun _ : Unit => .int .i64 X.L.length) (fun _ => True) (fun _ => [BufP b X]) := by
  refine ctr_of e11 ?_
  refine Ent.openX P0 BufP.open fun ⟨v, ps⟩ he => ?_
  unfold S11
  dsimp only at he ⊢
  (refine sTq ?_; repeat (refine bnd fun nb => ?_; refine sTq ?_))
  refine oLenE (f := ptE) (xs := ps) rfl ?_
  have hl : ps.length = X.L.length := by rw [← he, List.length_map]
  rw [hl]
  exact ent_ret () rfl trivial (Shift.close pKs (BufP.close (b := b) he))
def u32E (a : Int) : List Value := [.int .u32 a]
instance : Sized u32E 1 := ⟨fun _ => rfl, fun _ => rfl⟩
theorem times_fn (b : Nat) (X : AB) (hl : X.L.length ≤ 100000) : Ctr Try.prog 13 [pt b] [BufP b X] (fun v : Value => v) (fun _ => True) (fun v => [Rw u32E v (X.L.map AF.time), BufP b X]) := by
  refine ctr_of e13 ?_
  refine Ent.openX P0 BufP.open fun ⟨v, ps⟩ he => ?_
  unfold S13
  dsimp only at he ⊢
  have hpl : ps.length = X.L.length := by rw [← he, List.length_map]
  (refine sTq ?_; repeat (refine bnd fun nb => ?_; refine sTq ?_))
  refine oLenE (f := ptE) (xs := ps) rfl ?_
  refine oNil u32E ?_
  refine ent_VL (X := Nat × Value) (fun x => [x.2, .int .i64 x.1]) (fun x => x.1 ≤ ps.length) (fun x => ps.length - x.1) (fun x => [Rw u32E x.2 ((ps.take x.1).map fun p : Nat × AF => p.2.time)]) (0, .slice none 0 0) rfl (Nat.zero_le _) pKs ?_
  rintro ⟨i, o⟩ hi j
  dsimp only [List.cons_append, List.nil_append] at hi ⊢
  refine ent_O rfl ?_
  refine oI (fun hlt => ?_) fun hge => ?_
  · have hlt' : i < ps.length := by omega
    have hx : ps[i]? = some ps[i] := List.getElem?_eq_getElem hlt'
    refine oAt (f := ptE) (xs := ps) rfl (by omega) (by show ps[((i : Nat) : Int).toNat]? = _; rw [Int.toNat_natCast]; exact hx) rfl ?_
    refine Ctr.useAt (A := FrE) (x := ps[i]) (i := i) (time_fn ps[i].1 ps[i].2) (by first | exact P0 | exact P1 | exact P2 | exact P3) hx fun _ _ => ?_
    refine ent_BS rfl fun nb => ?_
    refine oPush (s := o) (f := u32E) (xs := (ps.take i).map fun p : Nat × AF => p.2.time) (by rfl) (by trivial) (by rfl) (by rfl) ps[i].2.time (by rfl) (by decide) (by rw [List.length_map, List.length_take]; omega) fun o' => ?_
    (refine sTq ?_; repeat (refine bnd fun nb => ?_; refine sTq ?_))
    exact ent_again (i + 1, o') (by rfl) (by dsimp only; omega) (by dsimp only; omega) (by
      dsimp only
      rw [show (ps.take (i + 1)).map (fun p : Nat × AF => p.2.time) = (ps.take i).map (fun p : Nat × AF => p.2.time) ++ [ps[i].2.time] by rw [List.take_succ_eq_append_getElem hlt', List.map_append]; rfl]
      exact pKs)
  · have : i = ps.length := by omega
    subst this
    rw [List.take_length]
    have e : ps.map (fun p : Nat × AF => p.2.time) = X.L.map AF.time := by rw [← he, List.map_map]; rfl
    rw [e]
    refine Ent.close pKs (BufP.close (b := b) he) ?_
    exact ent_ret o (by rfl) (by trivial) (Shift.of_picks pKs)
end Go.Proofs.Ytndanmhgbfjinaa
namespace Go.Proofs.Ytndanmhgbfjinaa
open Go Go.Sl Go.Cd
attribute [local irreducible] Try.prog cl ro mp mpI clT RowP FrP Big LV OV AV O Ld St Nw VB BS Cl Rd Runs OpR VJ VL RdK MSl Cv And2 Bnd binV cvV minV maxV aggO
def dI : Dt Int 1 := Dt.of (fun n => [.int .i64 n]) (fun _ => rfl) (fun _ => rfl)
def dU32 : Dt Int 1 := Dt.of (fun n => [.int .u32 n]) (fun _ => rfl) (fun _ => rfl)
def dStr : Dt ByteArray 1 := Dt.of (fun s => [.string s]) (fun _ => rfl) (fun _ => rfl)
def dBool : Dt Bool 1 := Dt.of (fun b => [.bool b]) (fun _ => rfl) (fun _ => rfl)
def hasL (ps : List (Option ByteArray)) : List Bool := ps.map Option.isSome
def strL (ps : List (Option ByteArray)) : List ByteArray := ps.map (·.getD ⟨#[]⟩)
def dF : Dt AF 4 where
  rep F cs h := ∃ v : Value × Value, cs = [.int .i64 F.time, .int .i64 F.first, v.1, v.2] ∧ LV dBool v.1 (hasL F.parts) h ∧ LV dStr v.2 (strL F.parts) h
  ro _ _ := inferInstance
  len := fun ⟨v, e, _⟩ => by rw [e]; rfl
  ones := fun ⟨v, e, a, b⟩ => by rw [e]; simp only [List.all_cons, List.all_nil, a.one, b.one]; rfl
theorem dF.open {F : AF} {cs : List Value} (h : PH) (a : dF.rep F cs h) : ∃ v : Value × Value, cs = [.int .i64 F.time, .int .i64 F.first, v.1, v.2] ∧ Star [LV dBool v.1 (hasL F.parts), LV dStr v.2 (strL F.parts)] h :=
  let ⟨v, e, x, y⟩ := a; ⟨v, e, Star.dupRo x (star1 y)⟩
def lkF (acc : List Int × Nat) (b : Bool) : List Int × Nat := (if b then acc.1 else acc.1 ++ [(acc.2 : Int)], acc.2 + 1)
def lk (ps : List (Option ByteArray)) : List Int := ((hasL ps).foldl lkF ([], 0)).1
theorem lk_snd (l : List Bool) : ∀ (s : List Int × Nat), (l.foldl lkF s).2 = s.2 + l.length := by
  induction l with
  | nil => intro s; rfl
  | cons b l ih => intro s; rw [List.foldl_cons, ih]; simp [lkF]; omega
theorem lk_len (l : List Bool) : ∀ (a : List Int) (n : Nat), (l.foldl lkF (a, n)).1.length ≤ a.length + l.length := by
  induction l with
  | nil => intro a n; simp
  | cons b l ih =>
    intro a n
    have := ih (lkF (a, n) b).1 (lkF (a, n) b).2
    rw [List.foldl_cons]
    refine Nat.le_trans this ?_
    cases b <;> simp [lkF] <;> omega
theorem lacks_fn (F : AF) (cs : List Value) (hl : F.parts.length ≤ 255) : Ctr Try.prog 50 [.agg cs.toArray] [dF.rep F cs] (fun v : Value => v) (fun _ => True) (fun v => [OV dI v (lk F.parts)]) := by
  refine ctr_of e50 ?_
  refine Ent.openX P0 dF.open fun v e => ?_
  subst e
  have hl' : (hasL F.parts).length ≤ 255 := by unfold hasL; rw [List.length_map]; exact hl
  unfold S50
  refine oN fun b => ?_
  refine oBS nMs fun nb => ?_
  (refine sTp ?_; repeat (refine bnd fun nb => ?_; refine sTp ?_))
  (try refine oLenD ?_)
  refine Ent.mk0 dI (b := nb) (by first | exact P0 | exact P1 | exact P2) ?_
  refine ent_VL (X := Nat × Value) (fun x => [x.2, .int .i64 x.1]) (fun x => x.1 ≤ (hasL F.parts).length) (fun x => (hasL F.parts).length - x.1)
    (fun x => [OV dI x.2 (((hasL F.parts).take x.1).foldl lkF ([], 0)).1]) (0, _) rfl (Nat.zero_le _) pKs ?_
  rintro ⟨i, o⟩ hi j
  dsimp only [List.cons_append, List.nil_append] at hi ⊢
  (refine sTp ?_; repeat (refine bnd fun nb => ?_; refine sTp ?_))
  refine oI (fun hlt => ?_) fun hge => ?_
  · have hlt' : i < (hasL F.parts).length := by omega
    refine ent_VJ' ?_
    refine oAtP i rfl hlt' fun y hy => ?_
    (refine sTp ?_; repeat (refine bnd fun nb => ?_; refine sTp ?_))
    have hs := fold_take (step := lkF) (s0 := ([], 0)) hy
    have h2 : ∀ n, ((hasL F.parts).take n).length = n → (((hasL F.parts).take n).foldl lkF ([], 0)).2 = n := fun n hn => by rw [lk_snd, hn]; simp
    have h2 := h2 i (by rw [List.length_take]; omega)
    have h3 := lk_len (((hasL F.parts).take i)) [] 0
    refine ent_VB (b := !y) (fun e => ?_) fun e => ?_
    · have : y = false := by simpa using e
      subst this
      refine oBS nMs fun nb2 => ?_
      refine oPushD (s := o) (by rfl) (by rfl) (by rfl) (by decide) (i : Int) (fun h s => rfl) (by simp only [List.length_nil] at h3; rw [List.length_take] at h3; omega) fun o' => ?_
      refine ent_all fun _ => ?_
      (refine sTp ?_; repeat (refine bnd fun nb => ?_; refine sTp ?_))
      exact ent_again (i + 1, o') (by rfl) hlt' (by dsimp only; omega) (by dsimp only; rw [hs]; simp only [lkF, h2, Bool.false_eq_true, if_false]; exact pKs)
    · have : y = true := by simpa using e
      subst this
      refine ent_all fun _ => ?_
      (refine sTp ?_; repeat (refine bnd fun nb => ?_; refine sTp ?_))
      exact ent_again (i + 1, o) (by rfl) hlt' (by dsimp only; omega) (by dsimp only; rw [hs]; simp only [lkF, if_true]; exact pKs)
  · have : i = (hasL F.parts).length := by omega
    subst this
    rw [List.take_length]
    exact ent_ret (o) (by rfl) (by trivial) (Shift.of_picks pKs)
end Go.Proofs.Ytndanmhgbfjinaa
namespace Go.Proofs.Ytndanmhgbfjinaa
open Go Go.Sl Go.Cd
attribute [local irreducible] Try.prog cl ro mp mpI clT RowP FrP Big LV OV AV O Ld St Nw VB BS Cl Rd Runs OpR VJ VL RdK MSl Cv And2 Bnd binV cvV minV maxV aggO
theorem catP_fold (ps : List (Option ByteArray)) : ∀ s, (strL ps).foldl (· ++ ·) s = s ++ catP ps := by
  induction ps with
  | nil => intro s; show s = s ++ ByteArray.empty; simp
  | cons p ps ih =>
    intro s
    show (strL ps).foldl (· ++ ·) (s ++ p.getD ⟨#[]⟩) = _
    rw [ih]
    cases p with
    | none => show s ++ ByteArray.empty ++ catP ps = s ++ catP ps; simp
    | some x => simp [catP, ByteArray.append_assoc]
theorem lk_length (ps : List (Option ByteArray)) : (lk ps).length + haveN ps = ps.length := by
  have key : ∀ (ps : List (Option ByteArray)) (a : List Int) (n : Nat), ((hasL ps).foldl lkF (a, n)).1.length + haveN ps = a.length + ps.length := by
    intro ps
    induction ps with
    | nil => intro a n; rfl
    | cons p ps ih =>
      intro a n
      show ((hasL ps).foldl lkF (lkF (a, n) p.isSome)).1.length + _ = _
      have := ih (lkF (a, n) p.isSome).1 (lkF (a, n) p.isSome).2
      cases p with
      | none => simp [lkF, haveN] at this ⊢; omega
      | some x => simp [lkF, haveN] at this ⊢; omega
  have := key ps [] 0
  rw [List.length_nil, Nat.zero_add] at this
  exact this
theorem data_ref (F : AF) (cs : List Value) (hl : F.parts.length ≤ 255) (hB : bytesN F.parts ≤ 70368744177664) : Ctr Try.prog 51 [.agg cs.toArray] [dF.rep F cs] (fun _ : Unit => .tuple #[.string F.data, .int .i64 (bytesN F.parts)]) (fun _ => True) (fun _ => []) := by
  refine ctr_of e51 ?_
  refine Ent.add (A := dF.rep F cs) hAs ?_
  refine Ent.openX P0 dF.open fun v e => ?_
  subst e
  have hl' : (strL F.parts).length = F.parts.length := by unfold strL; rw [List.length_map]
  unfold S51
  refine oN fun b => ?_
  (refine sTp ?_; repeat (refine bnd fun nb => ?_; refine sTp ?_))
  (try refine oLenD ?_)
  refine ent_range (S := Unit) (strL F.parts).length (fun i _ => [.string (((strL F.parts).take i).foldl (· ++ ·) ⟨#[]⟩), .int .i64 i]) (fun _ _ => True) (fun _ _ => []) () rfl trivial pKs ?_ ?_
  · intro i _ _ hi j kk ag
    (refine sTp ?_; repeat (refine bnd fun nb => ?_; refine sTp ?_))
    refine oAtP i rfl hi fun y hy => ?_
    have := fold_take (step := (· ++ ·)) (s0 := (⟨#[]⟩ : ByteArray)) hy
    rw [this] at ag
    have hz : (((strL F.parts).take i).foldl (· ++ ·) (⟨#[]⟩ : ByteArray)).size + y.size ≤ bytesN F.parts := by
      have h1 : (((strL F.parts).take (i + 1)).foldl (· ++ ·) (⟨#[]⟩ : ByteArray)).size ≤ bytesN F.parts := by
        unfold strL
        rw [← List.map_take]
        have := catP_fold (F.parts.take (i + 1)) ⟨#[]⟩
        unfold strL at this
        rw [this]
        show (ByteArray.empty ++ catP _).size ≤ _
        rw [ByteArray.empty_append, catP_size]
        exact bytesN_take _ _
      rw [this, ByteArray.size_append] at h1; exact h1
    (refine sTp ?_; repeat (refine bnd fun nb => ?_; refine sTp ?_))
    exact Ent.again (ag () trivial) (by rfl) pKs
  · intro _ _ j kk
    rw [List.take_length, catP_fold]
    (refine sTp ?_; repeat (refine bnd fun nb => ?_; refine sTp ?_))
    refine Ctr.use (lacks_fn F _ hl) pKs fun v _ => ?_
    (try dsimp only [List.cons_append, List.nil_append, List.append])
    (try refine oLenD ?_)
    have hk := lk_length F.parts
    have hs : (⟨#[]⟩ ++ catP F.parts : ByteArray) = catP F.parts := by show ByteArray.empty ++ _ = _; simp
    rw [hs]
    have hsz := catP_size F.parts
    by_cases hw : haveN F.parts = F.parts.length
    · have hd : F.data = catP F.parts := by simp [AF.data, AF.whole, hw]
      have h0 : (lk F.parts).length = 0 := by omega
      rw [h0, hd, ← hsz]
      (refine sTp ?_; repeat (refine bnd fun nb => ?_; refine sTp ?_))
      exact ent_ret (()) (by rfl) (by trivial) (Shift.of_picks pKs)
    · have hd : F.data = ⟨#[]⟩ := by simp [AF.data, AF.whole, hw]
      have h0 : 0 < (lk F.parts).length := by have := haveN_le F.parts; omega
      rw [hd, ← hsz]
      (refine sTp ?_; repeat (refine bnd fun nb => ?_; refine sTp ?_))
      exact ent_ret (()) (by rfl) (by trivial) (Shift.of_picks pKs)
end Go.Proofs.Ytndanmhgbfjinaa
namespace Go.Proofs.Ytndanmhgbfjinaa
open Go Go.Sl Go.Cd
attribute [local irreducible] Try.prog cl ro mp mpI clT RowP FrP Big LV OV AV O Ld St Nw VB BS Cl Rd Runs OpR VJ VL RdK MSl Cv And2 Bnd binV cvV minV maxV aggO
theorem dF.close {F : AF} {v1 v2 : Value} {h : PH} (a : LV dBool v1 (hasL F.parts) h) (b : LV dStr v2 (strL F.parts) h) : dF.rep F [.int .i64 F.time, .int .i64 F.first, v1, v2] h := ⟨(v1, v2), rfl, a, b⟩
def aggV (cs : List Value) : Value := .agg cs.toArray
theorem new_ref (t count now : Int) : Ctr Try.prog 53 [.int .i64 t, .int .i64 count, .int .i64 now] [] aggV (fun _ => True) (fun cs => [dF.rep (AF.new t count now) cs]) := by
  refine ctr_of e53 ?_
  unfold S53
  (refine sTp ?_; repeat (refine bnd fun nb => ?_; refine sTp ?_))
  obtain ⟨n, hn⟩ : ∃ n : Nat, (n : Int) = max 1 (min count 255) := ⟨(max 1 (min count 255)).toNat, by omega⟩
  have hp : (AF.new t count now).parts = List.replicate n none := by unfold AF.new; dsimp only; congr 1; omega
  have hle : n ≤ 255 := by omega
  refine oMk n (by omega) (by omega) (by omega) (by omega) fun b1 => ?_
  refine oMk n (by omega) (by omega) (by omega) (by omega) fun b2 => ?_
  (refine sTp ?_; repeat (refine bnd fun nb => ?_; refine sTp ?_))
  refine Ent.mkN dBool false (b := b1) (by first | exact P0 | exact P1 | exact P2) (fun h => rfl) ?_
  refine Ent.mkN dStr ⟨#[]⟩ (b := b2) (by first | exact P0 | exact P1 | exact P2) (fun h => rfl) ?_
  refine Ent.froze (D := dBool) (by first | exact P0 | exact P1 | exact P2) ?_
  refine Ent.froze (D := dStr) (by first | exact P0 | exact P1 | exact P2) ?_
  refine Ent.add (A := dF.rep (AF.new t count now) [.int .i64 (AF.new t count now).time, .int .i64 (AF.new t count now).first, .slice (some ⟨b1, 0, none⟩) n n, .slice (some ⟨b2, 0, none⟩) n n]) (fun h s => dF.close ?_ ?_) ?_
  · rw [hp]; unfold hasL; rw [List.map_replicate]; revert h s; exact hAs
  · rw [hp]; unfold strL; rw [List.map_replicate]; revert h s; exact hAs
  exact ent_ret (_) (by rfl) (by trivial) (Shift.of_picks pKs)
theorem put_ref (F : AF) (cs : List Value) (hl : F.parts.length ≤ 255) (i c : Int) (s : ByteArray) :
    Ctr Try.prog 52 [aggV cs, .int .i64 i, .int .i64 c, .string s] [dF.rep F cs] (fun r : List Value => .tuple #[aggV r, .int .i64 (F.put i c s).2]) (fun _ => True) (fun r => [dF.rep (F.put i c s).1 r]) := by
  refine ctr_of e52 ?_
  refine Ent.add (A := dF.rep F cs) hAs ?_
  refine Ent.openX P0 dF.open fun v e => ?_
  subst e
  obtain ⟨v1, v2⟩ := v
  have hl' : (hasL F.parts).length = F.parts.length := by unfold hasL; rw [List.length_map]
  have hl2 : (strL F.parts).length = F.parts.length := by unfold strL; rw [List.length_map]
  unfold S52
  dsimp only [List.cons_append, List.nil_append]
  refine oSlD v1 fun a1 c1 e1 => oSlD v2 fun a2 c2 e2 => ?_
  subst e1 e2
  refine oN fun b => ?_
  refine oN fun b' => ?_
  refine oJ (X := Bool) (fun b => [.bool b]) (fun b => b = true ↔ (c ≠ F.parts.length ∨ i < 0 ∨ i ≥ F.parts.length)) ?_ ?_
  · refine ent_O rfl ?_
    refine oL rfl ?_
    (try refine oLenD ?_)
    rw [hl']
    (refine sTp ?_; repeat (refine bnd fun nb => ?_; refine sTp ?_))
    refine oI (fun h1 => oJ0 true rfl (by simp [h1])) fun h1 => ?_
    (refine sTp ?_; repeat (refine bnd fun nb => ?_; refine sTp ?_))
    refine oI (fun h2 => oJ0 true rfl (by simp [h2])) fun h2 => ?_
    (refine sTp ?_; repeat (refine bnd fun nb => ?_; refine sTp ?_))
    exact oJ0 (decide (i ≥ c)) rfl (by simp [h2] at *; simp [h1])
  intro bad hbad j
  refine ent_VB (b := bad) (fun hb => ?_) fun hb => ?_
  · have e : F.put i c s = (F, 4) := by unfold AF.put; rw [if_pos (hbad.1 hb)]
    rw [e]
    (refine sTp ?_; repeat (refine bnd fun nb => ?_; refine sTp ?_))
    exact ent_ret (_) (by rfl) (by trivial) (Shift.of_picks pKs)
  have hok : ¬ (c ≠ F.parts.length ∨ i < 0 ∨ i ≥ F.parts.length) := fun h => by simp [hbad.2 h] at hb
  obtain ⟨n, rfl⟩ : ∃ n : Nat, (n : Int) = i := ⟨i.toNat, by omega⟩
  have hn : n < F.parts.length := by omega
  have hpat : pat F.parts n = F.parts[n] := by unfold pat; rw [if_pos (by omega), Int.toNat_natCast, List.getElem?_eq_getElem hn]; rfl
  refine ent_O rfl ?_
  refine oL rfl ?_
  refine oAtP (f := fun b => [.bool b]) n rfl (by omega) fun y hy => ?_
  refine rdk rfl ?_
  have hy' : y = (F.parts[n]).isSome := by
    unfold hasL at hy; rw [List.getElem?_map, List.getElem?_eq_getElem hn] at hy; simpa using hy.symm
  refine ent_VB (b := y) (fun hb2 => ?_) fun hb2 => ?_
  · have e : F.put n c s = (F, 3) := by
      unfold AF.put; rw [if_neg hok, if_pos]
      rw [hpat, ← hy', hb2]
    rw [e]
    (refine sTp ?_; repeat (refine bnd fun nb => ?_; refine sTp ?_))
    exact ent_ret (_) (by rfl) (by trivial) (Shift.of_picks pKs)
  have hps : (pat F.parts n).isSome = false := by rw [hpat, ← hy', hb2]
  refine oBS nMs fun nb1 => ?_
  refine Ent.mk0 dBool (b := nb1) P0 ?_
  refine ent_O rfl ?_
  refine oL rfl ?_
  refine oCatD (D := dBool) (ys := hasL F.parts) hAs rfl rfl rfl (by decide) (by rw [hl', List.length_nil]; omega) fun w1 => ?_
  refine oBS nMs fun nb2 => ?_
  refine Ent.mk0 dStr (b := nb2) P0 ?_
  refine ent_O rfl ?_
  refine oL rfl ?_
  refine oCatD (D := dStr) (ys := strL F.parts) hAs rfl rfl rfl (by decide) (by rw [hl2, List.length_nil]; omega) fun w2 => ?_
  refine oSetD (v := w1) (D := dBool) rfl n rfl (by simp only [List.nil_append]; omega) true (fun h s => rfl) ?_
  refine oSetD (v := w2) (D := dStr) rfl n rfl (by simp only [List.nil_append]; omega) s (fun h s => rfl) ?_
  simp only [List.nil_append]
  refine oSlD w1 fun a3 c3 e3 => oSlD w2 fun a4 c4 e4 => ?_
  subst e3 e4
  (refine sTp ?_; repeat (refine bnd fun nb => ?_; refine sTp ?_))
  refine Ent.froze (D := dBool) (by first | exact P0 | exact P1 | exact P2 | exact P3) ?_
  refine Ent.froze (D := dStr) (by first | exact P0 | exact P1 | exact P2 | exact P3) ?_
  let G : AF := ⟨F.time, F.first, F.parts.set n (some s)⟩
  have e : F.put n c s = (G, if G.whole then 2 else 1) := by
    unfold AF.put; rw [if_neg hok, if_neg (by simp [hps])]; rfl
  have g1 : (hasL F.parts).set n true = hasL G.parts := by unfold hasL; rw [List.map_set]; rfl
  have g2 : (strL F.parts).set n s = strL G.parts := by unfold strL; rw [List.map_set]; rfl
  rw [g1, g2, e]
  refine Ent.add (A := dF.rep G [.int .i64 G.time, .int .i64 G.first, .slice a3 (hasL G.parts).length c3, .slice a4 (strL G.parts).length c4]) (fun h s => dF.close ?_ ?_) ?_
  · revert h s; exact hAs
  · revert h s; exact hAs
  have hG : G.parts.length ≤ 255 := by show (F.parts.set n (some s)).length ≤ 255; rw [List.length_set]; exact hl
  refine Ctr.use (lacks_fn G _ hG) pKs fun v _ => ?_
  (try dsimp only [List.cons_append, List.nil_append, List.append])
  (try refine oLenD ?_)
  have hk := lk_length G.parts
  have hh := haveN_le G.parts
  by_cases hw : haveN G.parts = G.parts.length
  · have hg : G.whole = true := by simp [AF.whole, hw]
    have h0 : (lk G.parts).length = 0 := by omega
    rw [h0, hg]
    (refine sTp ?_; repeat (refine bnd fun nb => ?_; refine sTp ?_))
    exact ent_ret (_) (by rfl) (by trivial) (Shift.of_picks pKs)
  · have hg : G.whole = false := by simp [AF.whole, hw]
    have h0 : 0 < (lk G.parts).length := by omega
    rw [hg]
    (refine sTp ?_; repeat (refine bnd fun nb => ?_; refine sTp ?_))
    exact ent_ret (_) (by rfl) (by trivial) (Shift.of_picks pKs)
end Go.Proofs.Ytndanmhgbfjinaa
namespace Go.Cd
open Go Go.Sl
def AB.with (X : AB) (L : List AF) : AB := ⟨X.c, L, X.hor, X.pl, X.dr, X.ev⟩
theorem AB.with_self (X : AB) : X.with X.L = X := rfl
theorem evict_over {t : Int} {X : AB} {kind : Int} {out : List Int} {F : AF} {L : List AF} (h : over X.c (F :: L) = true) :
    evict t X kind out (F :: L) = evict t ⟨X.c, L, F.time, X.pl, X.dr, wr64 (X.ev + 1)⟩ (if F.time = t then 6 else kind) (out ++ [F.time]) L := by
  simp [evict, h]
theorem evict_end {t : Int} {X : AB} {kind : Int} {out : List Int} {L : List AF} (h : over X.c L = false) : evict t X kind out L = (X.with L, kind, out) := by
  cases L with
  | nil => rfl
  | cons F L => simp [evict, h, AB.with]
theorem evict_with (t : Int) (X : AB) (L' : List AF) (kind : Int) (out : List Int) (L : List AF) : evict t (X.with L') kind out L = evict t X kind out L := by
  cases L <;> rfl
theorem over_nil {c : Cfg} (h1 : 1 ≤ c.fr) (h2 : 1 ≤ c.pk) (h3 : 1 ≤ c.by_) : over c [] = false := by
  simp [over, sumH, sumB]; omega
theorem sumH_set {L : List AF} {k : Nat} {F : AF} (h : L[k]? = some F) (G : AF) : (sumH (L.set k G) : Int) = sumH L - haveN F.parts + haveN G.parts := by
  induction L generalizing k with
  | nil => simp at h
  | cons H L ih =>
    cases k with
    | zero => simp at h; subst h; simp [sumH]; omega
    | succ k => simp only [List.getElem?_cons_succ] at h; simp [sumH, ih h]; omega
theorem sumB_set {L : List AF} {k : Nat} {F : AF} (h : L[k]? = some F) (G : AF) : (sumB (L.set k G) : Int) = sumB L - bytesN F.parts + bytesN G.parts := by
  induction L generalizing k with
  | nil => simp at h
  | cons H L ih =>
    cases k with
    | zero => simp at h; subst h; simp [sumB]; omega
    | succ k => simp only [List.getElem?_cons_succ] at h; simp [sumB, ih h]; omega
theorem sumH_le {L : List AF} {k : Nat} {F : AF} (h : L[k]? = some F) : haveN F.parts ≤ sumH L := by
  induction L generalizing k with
  | nil => simp at h
  | cons H L ih =>
    cases k with
    | zero => simp at h; subst h; simp [sumH]
    | succ k => simp only [List.getElem?_cons_succ] at h; have := ih h; simp [sumH]; omega
theorem sumB_le {L : List AF} {k : Nat} {F : AF} (h : L[k]? = some F) : bytesN F.parts ≤ sumB L := by
  induction L generalizing k with
  | nil => simp at h
  | cons H L ih =>
    cases k with
    | zero => simp at h; subst h; simp [sumB]
    | succ k => simp only [List.getElem?_cons_succ] at h; have := ih h; simp [sumB]; omega
theorem withT_sums (t count now : Int) (L : List AF) : sumH (withT t count now L).1 = sumH L ∧ sumB (withT t count now L).1 = sumB L ∧ (withT t count now L).1.length ≤ L.length + 1 := by
  have ap : ∀ a b : List AF, sumH (a ++ b) = sumH a + sumH b ∧ sumB (a ++ b) = sumB a + sumB b := by
    intro a b
    induction a with
    | nil => simp [sumH, sumB]
    | cons F a ih => simp [sumH, sumB, ih.1, ih.2, Nat.add_assoc]
  by_cases h : ∃ F, L[posT AF.time t L]? = some F ∧ F.time = t
  · obtain ⟨F, h1, h2⟩ := h
    rw [withT_yes h1 h2]; exact ⟨rfl, rfl, by simp⟩
  · rw [withT_no fun F h1 h2 => h ⟨F, h1, h2⟩]
    have h0 : haveN (AF.new t count now).parts = 0 := haveN_replicate _
    have h00 : bytesN (AF.new t count now).parts = 0 := bytesN_replicate _
    have hp := posT_le AF.time t L
    refine ⟨?_, ?_, ?_⟩
    · rw [(ap _ _).1]; simp only [sumH, h0, Nat.zero_add]; rw [← (ap _ _).1, List.take_append_drop]
    · rw [(ap _ _).2]; simp only [sumB, h00, Nat.zero_add]; rw [← (ap _ _).2, List.take_append_drop]
    · simp [List.length_take, List.length_drop]; omega
theorem withT_parts {t count now : Int} {L : List AF} (h : ∀ F ∈ L, F.parts.length ≤ 255) : ∀ F ∈ (withT t count now L).1, F.parts.length ≤ 255 := by
  by_cases hh : ∃ F, L[posT AF.time t L]? = some F ∧ F.time = t
  · obtain ⟨F, h1, h2⟩ := hh
    rw [withT_yes h1 h2]; exact h
  · rw [withT_no fun F h1 h2 => hh ⟨F, h1, h2⟩]
    intro F hF
    rcases List.mem_append.1 hF with hF | hF
    · exact h F (List.mem_of_mem_take hF)
    · rcases List.mem_cons.1 hF with rfl | hF
      · simp only [AF.new, List.length_replicate]; omega
      · exact h F (List.mem_of_mem_drop hF)
theorem withT_all {t count now : Int} {L : List AF} {Q : AF → Prop} (h : ∀ F ∈ L, Q F) (hn : Q (AF.new t count now)) : ∀ F ∈ (withT t count now L).1, Q F := by
  by_cases hh : ∃ F, L[posT AF.time t L]? = some F ∧ F.time = t
  · obtain ⟨F, h1, h2⟩ := hh
    rw [withT_yes h1 h2]; exact h
  · rw [withT_no fun F h1 h2 => hh ⟨F, h1, h2⟩]
    intro F hF
    rcases List.mem_append.1 hF with hF | hF
    · exact h F (List.mem_of_mem_take hF)
    · rcases List.mem_cons.1 hF with rfl | hF
      · exact hn
      · exact h F (List.mem_of_mem_drop hF)
theorem set_all {α : Type} {l : List α} {Q : α → Prop} (h : ∀ x ∈ l, Q x) (k : Nat) {y : α} (hy : Q y) : ∀ x ∈ l.set k y, Q x := fun x hx => by
  rcases List.mem_or_eq_of_mem_set hx with hx | rfl
  · exact h x hx
  · exact hy
theorem put_len (F : AF) (i c : Int) (s : ByteArray) : (F.put i c s).1.parts.length = F.parts.length ∧ (F.put i c s).1.time = F.time ∧ bytesN (F.put i c s).1.parts ≤ bytesN F.parts + s.size ∧ haveN (F.put i c s).1.parts ≤ haveN F.parts + 1 := by
  unfold AF.put
  split
  · exact ⟨rfl, rfl, by simp, by simp⟩
  · split
    · exact ⟨rfl, rfl, by simp, by simp⟩
    · rename_i h1 h2
      have hn := pat_none (ps := F.parts) (i := i) (by omega) (by omega) (by simpa using h2)
      exact ⟨by simp, rfl, by rw [bytesN_set hn]; exact Nat.le_refl _, by rw [haveN_set hn]; exact Nat.le_refl _⟩
end Go.Cd
namespace Go.Proofs.Ytndanmhgbfjinaa
open Go Go.Sl Go.Cd
attribute [local irreducible] Try.prog cl ro mp mpI clT RowP FrP Big LV OV AV O Ld St Nw VB BS Cl Rd Runs OpR VJ VL RdK MSl Cv And2 Bnd binV cvV minV maxV aggO
theorem dF.opn {φ : Asn} {F : AF} {cs : List Value} {R : List Asn} (k : ∀ a1 c1 a2 c2, cs = [.int .i64 F.time, .int .i64 F.first, .slice a1 (hasL F.parts).length c1, .slice a2 (strL F.parts).length c2] →
    Ent (LV dBool (.slice a1 (hasL F.parts).length c1) (hasL F.parts) :: LV dStr (.slice a2 (strL F.parts).length c2) (strL F.parts) :: dF.rep F cs :: R) φ) : Ent (dF.rep F cs :: R) φ := by
  refine Ent.add (A := dF.rep F cs) hAs ?_
  refine Ent.openX P0 dF.open fun v e => ?_
  obtain ⟨v1, v2⟩ := v
  dsimp only [List.cons_append, List.nil_append] at e ⊢
  refine oSlD v1 fun a1 c1 e1 => oSlD v2 fun a2 c2 e2 => ?_
  subst e1 e2
  exact k a1 c1 a2 c2 e
def dB : Dt AB 8 where
  rep X cs h := ∃ v : Value, cs = [.int .i64 X.c.fr, .int .i64 X.c.pk, .int .i64 X.c.by_, v, .int .i64 X.hor, .int .i64 X.pl, .int .i64 X.dr, .int .i64 X.ev] ∧ LV dF v X.L h
  ro _ _ := inferInstance
  len := fun ⟨v, e, _⟩ => by rw [e]; rfl
  ones := fun ⟨v, e, a⟩ => by rw [e]; simp only [List.all_cons, List.all_nil, a.one]; rfl
def bC (X : AB) (a : Option Addr) (c : Nat) : List Value := [.int .i64 X.c.fr, .int .i64 X.c.pk, .int .i64 X.c.by_, .slice a X.L.length c, .int .i64 X.hor, .int .i64 X.pl, .int .i64 X.dr, .int .i64 X.ev]
theorem dB.opn {φ : Asn} {X : AB} {cs : List Value} {R : List Asn} (k : ∀ a c, cs = bC X a c → Ent (LV dF (.slice a X.L.length c) X.L :: dB.rep X cs :: R) φ) : Ent (dB.rep X cs :: R) φ := by
  refine Ent.add (A := dB.rep X cs) hAs ?_
  refine Ent.openX (X := Value) (ψ := fun v => cs = [.int .i64 X.c.fr, .int .i64 X.c.pk, .int .i64 X.c.by_, v, .int .i64 X.hor, .int .i64 X.pl, .int .i64 X.dr, .int .i64 X.ev]) (m := fun v => [LV dF v X.L]) P0 (fun h ⟨v, e, a⟩ => ⟨v, e, star1 a⟩) fun v e => ?_
  dsimp only [List.cons_append, List.nil_append]
  refine oSlD v fun a1 c1 e1 => ?_
  subst e1
  exact k a1 c1 e
theorem dB.close {X : AB} {a : Option Addr} {c : Nat} {h : PH} (q : LV dF (.slice a X.L.length c) X.L h) : dB.rep X (bC X a c) h := ⟨_, rfl, q⟩
theorem clip_ref (c : Cfg) : Ctr Try.prog 17 [.agg #[.int .i64 c.fr, .int .i64 c.pk, .int .i64 c.by_]] [] (fun _ : Unit => .agg #[.int .i64 c.clip.fr, .int .i64 c.clip.pk, .int .i64 c.clip.by_]) (fun _ => True) (fun _ => []) := by
  refine ctr_of e17 ?_
  unfold S17
  (refine sTp ?_; repeat (refine bnd fun nb => ?_; refine sTp ?_))
  exact ent_ret (()) (by rfl) (by trivial) (Shift.of_picks pKs)
theorem bnew_ref (c : Cfg) : Ctr Try.prog 15 [.agg #[.int .i64 c.fr, .int .i64 c.pk, .int .i64 c.by_]] [] aggV (fun _ => True) (fun cs => [dB.rep (AB.new c) cs]) := by
  refine ctr_of e15 ?_
  unfold S15
  (refine sTp ?_; repeat (refine bnd fun nb => ?_; refine sTp ?_))
  (refine Ctr.use (clip_ref c) pKs fun _ _ => ?_; (try dsimp only [List.cons_append, List.nil_append, List.append]))
  (refine sTp ?_; repeat (refine bnd fun nb => ?_; refine sTp ?_))
  refine oNilL dF ?_
  refine Ent.add (A := dB.rep (AB.new c) (bC (AB.new c) none 0)) (fun h s => dB.close (by revert h s; exact hAs)) ?_
  exact ent_ret (_) (by rfl) (by trivial) (Shift.of_picks pKs)
theorem sizes_ref (X : AB) (cs : List Value) (hl : X.L.length ≤ 10000) (hQ : ∀ H ∈ X.L, H.parts.length ≤ 255) (hH : sumH X.L ≤ 1000000000) (hB : sumB X.L ≤ 70368744177664) :
    Ctr Try.prog 36 [aggV cs] [dB.rep X cs] (fun _ : Unit => .tuple #[.int .i64 (sumH X.L), .int .i64 (sumB X.L)]) (fun _ => True) (fun _ => []) := by
  refine ctr_of e36 ?_
  refine dB.opn fun a c e => ?_
  subst e
  unfold S36
  (refine sTp ?_; repeat (refine bnd fun nb => ?_; refine sTp ?_))
  refine ent_range (S := Unit) X.L.length (fun i _ => [.int .i64 (sumH (X.L.take i)), .int .i64 (sumB (X.L.take i)), .int .i64 i]) (fun _ _ => True) (fun _ _ => []) () rfl trivial pKs ?_ ?_
  · intro i _ _ hi j kk ag
    (refine sTp ?_; repeat (refine bnd fun nb => ?_; refine sTp ?_))
    refine oAtD i rfl hi fun F fs hF => ?_
    refine dF.opn fun a1 c1 a2 c2 e => ?_
    subst e
    have hm := hQ F (List.mem_of_getElem? hF)
    have hl1 : (hasL F.parts).length = F.parts.length := by unfold hasL; rw [List.length_map]
    have hFb := sumB_le hF
    have hFh := sumH_le hF
    have hk := lk_length F.parts
    have ht1 : sumH (X.L.take (i + 1)) = sumH (X.L.take i) + haveN F.parts := by
      obtain ⟨hlt, e⟩ := List.getElem?_eq_some_iff.1 hF
      rw [List.take_succ_eq_append_getElem hlt, sumH_append, e]; simp [sumH]
    have ht2 : sumB (X.L.take (i + 1)) = sumB (X.L.take i) + bytesN F.parts := by
      obtain ⟨hlt, e⟩ := List.getElem?_eq_some_iff.1 hF
      rw [List.take_succ_eq_append_getElem hlt, sumB_append, e]; simp [sumB]
    have hs1 : sumH (X.L.take (i + 1)) ≤ sumH X.L := by
      have := sumH_append (X.L.take (i + 1)) (X.L.drop (i + 1)); rw [List.take_append_drop] at this; omega
    have hs2 : sumB (X.L.take (i + 1)) ≤ sumB X.L := by
      have := sumB_append (X.L.take (i + 1)) (X.L.drop (i + 1)); rw [List.take_append_drop] at this; omega
    (refine sTp ?_; repeat (refine bnd fun nb => ?_; refine sTp ?_))
    refine Ctr.use (lacks_fn F _ hm) pKs fun v _ => ?_
    (refine sTp ?_; repeat (refine bnd fun nb => ?_; refine sTp ?_))
    refine Ctr.use (data_ref F _ hm (by omega)) pKs fun _ _ => ?_
    (refine sTp ?_; repeat (refine bnd fun nb => ?_; refine sTp ?_))
    refine Ent.again (ag () trivial) ?_ pKs
    rw [ht1, ht2]
    congr 1
    · congr 1; omega
  · intro _ _ j kk
    rw [List.take_length]
    (refine sTp ?_; repeat (refine bnd fun nb => ?_; refine sTp ?_))
    exact ent_ret (()) (by rfl) (by trivial) (Shift.of_picks pKs)
end Go.Proofs.Ytndanmhgbfjinaa
namespace Go.Cd
open Go Go.Sl
def insStep (t i c : Int) (s : ByteArray) (now : Int) (st : List AF × Int × Bool) (f : AF) : List AF × Int × Bool :=
  let r := (AF.new t c now).put i c s
  let st1 := if st.2.2 = false ∧ f.time > t then (st.1 ++ [r.1], r.2, true) else st
  if f.time = t then (st1.1 ++ [(f.put i c s).1], (f.put i c s).2, true) else (st1.1 ++ [f], st1.2.1, st1.2.2)
def insFin (t i c : Int) (s : ByteArray) (now : Int) (st : List AF × Int × Bool) : List AF × Int :=
  let r := (AF.new t c now).put i c s
  if st.2.2 = false then (st.1 ++ [r.1], r.2) else (st.1, st.2.1)
theorem insStep_done (t i c : Int) (s : ByteArray) (now : Int) (L : List AF) : ∀ (l0 : List AF) (k : Int), (∀ f ∈ L, t < f.time) → L.foldl (insStep t i c s now) (l0, k, true) = (l0 ++ L, k, true) := by
  induction L with
  | nil => intro l0 k _; simp
  | cons f L ih =>
    intro l0 k h
    have h1 := h f (by simp)
    have e : insStep t i c s now (l0, k, true) f = (l0 ++ [f], k, true) := by
      have : f.time ≠ t := by omega
      simp [insStep, this]
    rw [List.foldl_cons, e, ih _ _ (fun g hg => h g (by simp [hg]))]
    simp
theorem insPut_fold (t i c : Int) (s : ByteArray) (now : Int) (L : List AF) (hs : L.Pairwise fun a b => a.time < b.time) : ∀ (l0 : List AF) (k : Int),
    insFin t i c s now (L.foldl (insStep t i c s now) (l0, k, false)) = (l0 ++ (insPut t i c s now L).1, (insPut t i c s now L).2) := by
  induction L with
  | nil => intro l0 k; simp [insFin, insPut]
  | cons f L ih =>
    intro l0 k
    rw [List.pairwise_cons] at hs
    rw [List.foldl_cons]
    by_cases h1 : f.time = t
    · have e : insStep t i c s now (l0, k, false) f = (l0 ++ [(f.put i c s).1], (f.put i c s).2, true) := by
        simp [insStep, h1]
      rw [e, insStep_done _ _ _ _ _ _ _ _ (fun g hg => by have := hs.1 g hg; omega)]
      simp [insFin, insPut, h1]
    · by_cases h2 : t < f.time
      · have e : insStep t i c s now (l0, k, false) f = (l0 ++ [((AF.new t c now).put i c s).1] ++ [f], ((AF.new t c now).put i c s).2, true) := by
          simp [insStep, h1, h2]
        rw [e, insStep_done _ _ _ _ _ _ _ _ (fun g hg => by have := hs.1 g hg; omega)]
        simp [insFin, insPut, h1, h2]
      · have e : insStep t i c s now (l0, k, false) f = (l0 ++ [f], k, false) := by
          have : ¬ f.time > t := h2
          simp [insStep, h1, this]
        rw [e, ih hs.2]
        simp [insPut, h1, h2]
theorem insStep_len (t i c : Int) (s : ByteArray) (now : Int) (st : List AF × Int × Bool) (f : AF) : (insStep t i c s now st f).1.length ≤ st.1.length + 2 := by
  unfold insStep
  dsimp only
  split <;> split <;> simp
theorem insFold_len (t i c : Int) (s : ByteArray) (now : Int) (L : List AF) : ∀ st, (L.foldl (insStep t i c s now) st).1.length ≤ st.1.length + 2 * L.length := by
  induction L with
  | nil => intro st; simp
  | cons f L ih => intro st; rw [List.foldl_cons]; have := ih (insStep t i c s now st f); have := insStep_len t i c s now st f; simp; omega
end Go.Cd
namespace Go.Proofs.Ytndanmhgbfjinaa
open Go Go.Sl Go.Cd
attribute [local irreducible] Try.prog cl ro mp mpI clT RowP FrP Big LV OV AV O Ld St Nw VB BS Cl Rd Runs OpR VJ VL RdK MSl Cv And2 Bnd binV cvV minV maxV aggO
def bufZ : List Value := [.int .i64 0, .int .i64 0, .int .i64 0, .slice none 0 0, .int .i64 0, .int .i64 0, .int .i64 0, .int .i64 0]
set_option maxHeartbeats 4000000 in
theorem bput_ref (X : AB) (cs : List Value) (ok : X.Ok) (t i c now : Int) (s : ByteArray) (hs : s.size ≤ 1000000000) :
    Ctr Try.prog 35 [aggV cs, .int .i64 t, .int .i64 i, .int .i64 c, .string s, .int .i64 now] [dB.rep X cs]
      (fun x : List Value × Value => .tuple #[aggV x.1, .int .i64 (X.put t i c s now).2.1, x.2]) (fun _ => True) (fun x => [dB.rep (X.put t i c s now).1 x.1, LV dI x.2 (X.put t i c s now).2.2]) := by
  refine ctr_of e35 ?_
  refine dB.opn fun a0 c0 e => ?_
  subst e
  unfold S35
  have hov := ok.over
  have hlim : X.L.length ≤ 1024 ∧ sumH X.L ≤ 65536 ∧ sumB X.L ≤ 67108864 := by
    have := ok.fr; have := ok.pk; have := ok.by_
    simp only [over, decide_eq_false_iff_not] at hov
    omega
  refine oN fun b1 => oN fun b2 => ?_
  by_cases h1 : t ≤ X.hor
  · have e : X.put t i c s now = (X, 5, []) := by unfold AB.put; rw [if_pos h1]
    rw [e]
    (refine sTp ?_; repeat (refine bnd fun nb => ?_; refine sTp ?_))
    refine oNilL dI ?_
    exact ent_ret ((bC X a0 c0, _)) (by rfl) (by trivial) (Shift.of_picks pKs)
  (refine sTp ?_; repeat (refine bnd fun nb => ?_; refine sTp ?_))
  refine oJ (X := Bool) (fun b => [.bool b]) (fun b => b = true ↔ (c < 1 ∨ c > 255 ∨ i < 0 ∨ i ≥ c)) ?_ ?_
  · (refine sTp ?_; repeat (refine bnd fun nb => ?_; refine sTp ?_))
    refine oI (fun h2 => oJ0 true rfl (by simp [h2])) fun h2 => ?_
    (refine sTp ?_; repeat (refine bnd fun nb => ?_; refine sTp ?_))
    refine oI (fun h3 => oJ0 true rfl (by simp [h3])) fun h3 => ?_
    (refine sTp ?_; repeat (refine bnd fun nb => ?_; refine sTp ?_))
    refine oI (fun h4 => oJ0 true rfl (by simp [h4])) fun h4 => ?_
    (refine sTp ?_; repeat (refine bnd fun nb => ?_; refine sTp ?_))
    exact oJ0 (decide (i ≥ c)) rfl (by simp only [decide_eq_true_eq]; omega)
  intro bad hbad j
  refine ent_VB (b := bad) (fun hb => ?_) fun hb => ?_
  · have e : X.put t i c s now = (X, 4, []) := by unfold AB.put; rw [if_neg h1, if_pos (hbad.1 hb)]
    rw [e]
    (refine sTp ?_; repeat (refine bnd fun nb => ?_; refine sTp ?_))
    refine oNilL dI ?_
    exact ent_ret ((bC X a0 c0, _)) (by rfl) (by trivial) (Shift.of_picks pKs)
  have hok : ¬ (c < 1 ∨ c > 255 ∨ i < 0 ∨ i ≥ c) := fun h => by simp [hbad.2 h] at hb
  have eput : X.put t i c s now = evict t X (insPut t i c s now X.L).2 [] (insPut t i c s now X.L).1 := by unfold AB.put; rw [if_neg h1, if_neg hok]
  have hN : ∀ F : AF, F.parts.length ≤ 255 → (F.put i c s).1.parts.length ≤ 255 := fun F h => by have := put_len F i c s; omega
  have hNew : (AF.new t c now).parts.length ≤ 255 := by simp only [AF.new, List.length_replicate]; omega
  refine oBS nMs fun nb => ?_
  refine Ent.mk0 dF (b := nb) P0 ?_
  (refine sTp ?_; repeat (refine bnd fun nb => ?_; refine sTp ?_))
  refine ent_range (S := Value) X.L.length (fun i' v => [v, .int .i64 ((X.L.take i').foldl (insStep t i c s now) ([], 0, false)).2.1, .bool ((X.L.take i').foldl (insStep t i c s now) ([], 0, false)).2.2, .int .i64 i'])
    (fun _ _ => True) (fun i' v => [OV dF v ((X.L.take i').foldl (insStep t i c s now) ([], 0, false)).1]) _ rfl trivial pKs ?_ ?_
  · intro k v _ hk j kk ag
    (refine sTp ?_; repeat (refine bnd fun nb => ?_; refine sTp ?_))
    refine oAtD k rfl hk fun F fs hF => ?_
    refine dF.opn fun a1 c1 a2 c2 e => ?_
    subst e
    have hm := ok.parts F (List.mem_of_getElem? hF)
    have hst := fold_take (step := insStep t i c s now) (s0 := ([], 0, false)) hF
    have hlen := insFold_len t i c s now (X.L.take k) ([], 0, false)
    rw [hst] at ag
    generalize (X.L.take k).foldl (insStep t i c s now) ([], 0, false) = st at ag hlen ⊢
    obtain ⟨l0, kd, dn⟩ := st
    dsimp only at ag hlen ⊢
    rw [List.length_take, List.length_nil] at hlen
    by_cases h5 : F.time = t
    · have eS : insStep t i c s now (l0, kd, dn) F = (l0 ++ [(F.put i c s).1], (F.put i c s).2, true) := by simp [insStep, h5]
      rw [eS] at ag
      (refine sTp ?_; repeat (refine bnd fun nb => ?_; refine sTp ?_))
      refine ent_VJ' ?_
      refine ent_VJ' ?_
      cases dn
      all_goals
        (refine sTp ?_; repeat (refine bnd fun nb => ?_; refine sTp ?_))
        refine ent_all fun _ => ?_
        (refine sTp ?_; repeat (refine bnd fun nb => ?_; refine sTp ?_))
        refine ent_all fun _ => ?_
        refine ent_VJ' ?_
        (refine sTp ?_; repeat (refine bnd fun nb => ?_; refine sTp ?_))
        refine Ctr.use (put_ref F _ hm i c s) pKs fun r _ => ?_
        (try dsimp only [List.cons_append, List.nil_append, List.append])
        refine dF.opn fun a3 c3 a4 c4 e => ?_
        subst e
        (refine sTp ?_; repeat (refine bnd fun nb => ?_; refine sTp ?_))
        refine ent_all fun _ => ?_
        (refine sTp ?_; repeat (refine bnd fun nb => ?_; refine sTp ?_))
        refine oBS nMs fun nb2 => ?_
        refine oPushD (s := v) (D := dF) rfl rfl rfl (by decide) (F.put i c s).1 hAs (by omega) fun v2 => ?_
        (refine sTp ?_; repeat (refine bnd fun nb => ?_; refine sTp ?_))
        exact Ent.again (ag v2 trivial) (by rfl) pKs
    by_cases h6 : dn = false ∧ F.time > t
    · obtain ⟨h6, h7⟩ := h6
      subst h6
      have eS : insStep t i c s now (l0, kd, false) F = (l0 ++ [((AF.new t c now).put i c s).1] ++ [F], ((AF.new t c now).put i c s).2, true) := by simp [insStep, h5, h7]
      rw [eS] at ag
      (refine sTp ?_; repeat (refine bnd fun nb => ?_; refine sTp ?_))
      refine ent_VJ' ?_
      refine ent_VJ' ?_
      (refine sTp ?_; repeat (refine bnd fun nb => ?_; refine sTp ?_))
      refine ent_all fun _ => ?_
      (refine sTp ?_; repeat (refine bnd fun nb => ?_; refine sTp ?_))
      refine Ctr.use (new_ref t c now) pKs fun r0 _ => ?_
      (try dsimp only [List.cons_append, List.nil_append, List.append])
      refine Ctr.use (put_ref (AF.new t c now) _ hNew i c s) pKs fun r _ => ?_
      (try dsimp only [List.cons_append, List.nil_append, List.append])
      refine dF.opn fun a3 c3 a4 c4 e => ?_
      subst e
      (refine sTp ?_; repeat (refine bnd fun nb => ?_; refine sTp ?_))
      refine oBS nMs fun nb2 => ?_
      refine oPushD (s := v) (D := dF) rfl rfl rfl (by decide) ((AF.new t c now).put i c s).1 hAs (by omega) fun v2 => ?_
      refine ent_all fun _ => ?_
      refine ent_VJ' ?_
      (refine sTp ?_; repeat (refine bnd fun nb => ?_; refine sTp ?_))
      refine ent_all fun _ => ?_
      (refine sTp ?_; repeat (refine bnd fun nb => ?_; refine sTp ?_))
      refine oBS nMs fun nb3 => ?_
      refine oPushD (s := v2) (D := dF) rfl rfl rfl (by decide) F hAs (by simp only [List.length_append, List.length_cons, List.length_nil]; omega) fun v3 => ?_
      (refine sTp ?_; repeat (refine bnd fun nb => ?_; refine sTp ?_))
      exact Ent.again (ag v3 trivial) (by rfl) pKs
    · have eS : insStep t i c s now (l0, kd, dn) F = (l0 ++ [F], kd, dn) := by simp only [insStep]; rw [if_neg h5, if_neg h6]
      rw [eS] at ag
      (refine sTp ?_; repeat (refine bnd fun nb => ?_; refine sTp ?_))
      refine ent_VJ' ?_
      refine ent_VJ' ?_
      have h8 : dn = false → F.time ≤ t := fun h => Int.not_lt.1 fun h' => h6 ⟨h, h'⟩
      cases dn
      all_goals
        (try have h9 := h8 rfl)
        (refine sTp ?_; repeat (refine bnd fun nb => ?_; refine sTp ?_))
        refine ent_all fun _ => ?_
        (refine sTp ?_; repeat (refine bnd fun nb => ?_; refine sTp ?_))
        refine ent_all fun _ => ?_
        refine ent_VJ' ?_
        (refine sTp ?_; repeat (refine bnd fun nb => ?_; refine sTp ?_))
        refine ent_all fun _ => ?_
        (refine sTp ?_; repeat (refine bnd fun nb => ?_; refine sTp ?_))
        refine oBS nMs fun nb2 => ?_
        refine oPushD (s := v) (D := dF) rfl rfl rfl (by decide) F hAs (by omega) fun v2 => ?_
        (refine sTp ?_; repeat (refine bnd fun nb => ?_; refine sTp ?_))
        exact Ent.again (ag v2 trivial) (by rfl) pKs
  · intro v _ j kk
    have hfin := insPut_fold t i c s now X.L ok.rise [] 0
    rw [List.nil_append] at hfin
    rw [List.take_length]
    have hlen := insFold_len t i c s now X.L ([], 0, false)
    rw [List.length_nil] at hlen
    generalize X.L.foldl (insStep t i c s now) ([], 0, false) = st at hfin hlen ⊢
    obtain ⟨l0, kd, dn⟩ := st
    dsimp only at hlen ⊢
    (refine sTp ?_; repeat (refine bnd fun nb => ?_; refine sTp ?_))
    obtain ⟨L1, hL1⟩ : ∃ L1, L1 = (insPut t i c s now X.L).1 := ⟨_, rfl⟩
    obtain ⟨kind, hkind⟩ : ∃ k, k = (insPut t i c s now X.L).2 := ⟨_, rfl⟩
    have hz : bufZ = bufZ := rfl
    refine ent_VJ (X := Value) (fun v => [v, .int .i64 kind]) (fun _ => True) (fun v => [OV dF v L1, cl b1 (bC X a0 c0), cl b2 bufZ]) ?_ ?_
    · cases dn
      · have e : (l0 ++ [((AF.new t c now).put i c s).1], ((AF.new t c now).put i c s).2) = ((insPut t i c s now X.L).1, (insPut t i c s now X.L).2) := hfin
        obtain ⟨e1, e2⟩ := Prod.mk.inj e
        (refine sTp ?_; repeat (refine bnd fun nb => ?_; refine sTp ?_))
        refine Ctr.use (new_ref t c now) pKs fun r0 _ => ?_
        (try dsimp only [List.cons_append, List.nil_append, List.append])
        refine Ctr.use (put_ref (AF.new t c now) _ hNew i c s) pKs fun r _ => ?_
        (try dsimp only [List.cons_append, List.nil_append, List.append])
        refine dF.opn fun a3 c3 a4 c4 e => ?_
        subst e
        (refine sTp ?_; repeat (refine bnd fun nb => ?_; refine sTp ?_))
        refine oBS nMs fun nb2 => ?_
        refine oPushD (s := v) (D := dF) rfl rfl rfl (by decide) ((AF.new t c now).put i c s).1 hAs (by omega) fun v2 => ?_
        rw [e1, e2, ← hL1, ← hkind]
        exact ent_join v2 (by rfl) trivial pKs
      · have e : (l0, kd) = ((insPut t i c s now X.L).1, (insPut t i c s now X.L).2) := hfin
        obtain ⟨e1, e2⟩ := Prod.mk.inj e
        subst e1 e2
        (refine sTp ?_; repeat (refine bnd fun nb => ?_; refine sTp ?_))
        rw [← hL1, ← hkind]
        exact ent_join v (by rfl) trivial pKs
    · intro v2 _ j2
      (try dsimp only [List.cons_append, List.nil_append, List.append])
      refine oSlD v2 fun a5 c5 e5 => ?_
      subst e5
      unfold bC
      (refine sTp ?_; repeat (refine bnd fun nb => ?_; refine sTp ?_))
      refine oBS nMs fun nb3 => ?_
      refine Ent.mk0 dI (b := nb3) wHs ?_
      have hQ : ∀ H ∈ L1, H.parts.length ≤ 255 := by
        have hp := insPut_eq t i c s now X.L ok.rise (F := _) (Classical.choose_spec (withT_at t c now X.L)).1
        rw [hL1, hp]
        have h0 := withT_parts (t := t) (count := c) (now := now) ok.parts
        refine set_all h0 _ (hN _ (h0 _ (List.mem_of_getElem? (Classical.choose_spec (withT_at t c now X.L)).1)))
      have hb1 : L1.length ≤ 1025 ∧ sumH L1 ≤ 65537 ∧ sumB L1 ≤ 1067108864 := by
        obtain ⟨F, hF, _⟩ := withT_at t c now X.L
        have hp := insPut_eq t i c s now X.L ok.rise hF
        have hw := withT_sums t c now X.L
        have h1 := sumH_set hF (F.put i c s).1
        have h2 := sumB_set hF (F.put i c s).1
        have h3 := put_len F i c s
        have h4 := sumH_le hF
        have h5 := sumB_le hF
        rw [hL1, hp]
        dsimp only
        rw [List.length_set]
        omega
      refine ent_loop (S := AB × Int × List Int × Value × Option Addr × Nat) (fun x => [.int .i64 x.2.1, x.2.2.2.1])
        (fun x => evict t x.1 x.2.1 x.2.2.1 x.1.L = X.put t i c s now ∧ x.1.c = X.c ∧ (∀ H ∈ x.1.L, H.parts.length ≤ 255) ∧ x.1.L.length + x.2.2.1.length ≤ 1025 ∧ sumH x.1.L ≤ 65537 ∧ sumB x.1.L ≤ 1067108864)
        (fun x => x.1.L.length) (fun x => [cl b1 (bC x.1 x.2.2.2.2.1 x.2.2.2.2.2), AV dF (.slice x.2.2.2.2.1 x.1.L.length x.2.2.2.2.2) x.1.L, OV dI x.2.2.2.1 x.2.2.1, cl b2 bufZ])
        (X.with L1, kind, [], _, a5, c5) rfl ⟨by rw [eput, ← hL1, ← hkind]; exact evict_with _ _ _ _ _ _, rfl, hQ, by simpa [AB.with] using hb1.1, hb1.2.1, hb1.2.2⟩ pKs ?_
      rintro ⟨Y, kd, gone, o, a, c9⟩ ⟨g1, g2, g3, g4, g5, g6⟩ j3 kk2 ag
      dsimp only at g1 g2 g3 g4 g5 g6 ⊢
      unfold bC
      (refine sTp ?_; repeat (refine bnd fun nb => ?_; refine sTp ?_))
      refine Ent.sealA (D := dF) wHs ?_
      refine Ent.add (A := dB.rep Y (bC Y a c9)) (fun h s => dB.close (by revert h s; exact hAs)) ?_
      refine Ctr.use (sizes_ref Y _ (by omega) g3 (by omega) (by omega)) pKs fun _ _ => ?_
      have hov : over Y.c Y.L = decide ((Y.L.length : Int) > Y.c.fr ∨ (sumH Y.L : Int) > Y.c.pk ∨ (sumB Y.L : Int) > Y.c.by_) := rfl
      by_cases ho : (Y.L.length : Int) > Y.c.fr ∨ (sumH Y.L : Int) > Y.c.pk ∨ (sumB Y.L : Int) > Y.c.by_
      · have hov' : over Y.c Y.L = true := by rw [hov]; exact decide_eq_true ho
        obtain ⟨H, L, hYL⟩ : ∃ H L, Y.L = H :: L := by
          cases hYL : Y.L with
          | nil =>
            rw [hYL, g2] at hov'
            rw [over_nil ok.fr.1 ok.pk.1 ok.by_.1] at hov'; cases hov'
          | cons H L => exact ⟨H, L, rfl⟩
        have hl0 : Y.L[0]? = some H := by rw [hYL]; rfl
        have hl1 : Y.L.length = L.length + 1 := by rw [hYL]; rfl
        have hl2 : (Y.L.take Y.L.length).drop 1 = L := by rw [List.take_length, hYL]; rfl
        have hs1 : sumH L ≤ sumH Y.L := by rw [hYL]; simp [sumH]
        have hs2 : sumB L ≤ sumB Y.L := by rw [hYL]; simp [sumB]
        have hQ2 : ∀ K ∈ L, K.parts.length ≤ 255 := fun K hK => g3 K (by rw [hYL]; simp [hK])
        rw [hYL] at g1 hov'
        rw [evict_over hov'] at g1
        (refine sTp ?_; repeat (refine bnd fun nb => ?_; refine sTp ?_))
        refine ent_VJ (X := Unit) (fun _ => [.bool false]) (fun _ => True) (fun _ => [cl b1 (bC Y a c9), LV dF (.slice a Y.L.length c9) Y.L, OV dI o gone, cl b2 bufZ]) ?_ ?_
        · (refine sTp ?_; repeat (refine bnd fun nb => ?_; refine sTp ?_))
          refine oI (fun q1 => ?_) (fun q1 => ent_join () (by rfl) trivial pKs)
          (refine sTp ?_; repeat (refine bnd fun nb => ?_; refine sTp ?_))
          refine oI (fun q2 => ?_) (fun q2 => ent_join () (by rfl) trivial pKs)
          (refine sTp ?_; repeat (refine bnd fun nb => ?_; refine sTp ?_))
          exact ent_join () (by rfl) trivial pKs
        · intro _ _ j4
          unfold bC
          (refine sTp ?_; repeat (refine bnd fun nb => ?_; refine sTp ?_))
          refine oAtFD 0 rfl (by omega) fun H' hs' hH' => ?_
          rw [hl0] at hH'
          obtain rfl := Option.some.inj hH'
          refine dF.opn fun a1 c1 a2 c2 e => ?_
          subst e
          (refine sTp ?_; repeat (refine bnd fun nb => ?_; refine sTp ?_))
          refine oBS nMs fun nb4 => ?_
          refine oPushD (s := o) (D := dI) rfl rfl rfl (by decide) H.time (fun h s => rfl) (by omega) fun o2 => ?_
          refine ent_VJ (X := Unit) (fun _ => [.int .i64 (if H.time = t then 6 else kd)]) (fun _ => True) (fun _ => [OV dI o2 (gone ++ [H.time]), LV dF (.slice a Y.L.length c9) Y.L, cl b1 (bC Y a c9), cl b2 bufZ]) ?_ ?_
          · (refine sTp ?_; repeat (refine bnd fun nb => ?_; refine sTp ?_))
            refine oI (fun q1 => ?_) (fun q1 => ?_)
            · rw [if_pos q1]; exact ent_join () (by rfl) trivial pKs
            · rw [if_neg q1]; exact ent_join () (by rfl) trivial pKs
          intro _ _ j5
          unfold bC
          (refine sTp ?_; repeat (refine bnd fun nb => ?_; refine sTp ?_))
          refine oCutD (D := dF) hAs 1 Y.L.length (by omega) (Nat.le_refl _) (bnd_i (by decide) (by omega)) (fun _ _ => rfl) fun u => ?_
          refine oSlD u fun a6 c6 e6 => ?_
          subst e6
          rw [hl2]
          (refine sTp ?_; repeat (refine bnd fun nb => ?_; refine sTp ?_))
          refine Ent.again (ag (⟨Y.c, L, H.time, Y.pl, Y.dr, wr64 (Y.ev + 1)⟩, _, gone ++ [H.time], o2, a6, c6) ⟨g1, g2, hQ2, ?_, by dsimp only; omega, by dsimp only; omega⟩ (by dsimp only; omega)) (by rfl) pKs
          simp only [List.length_append, List.length_cons, List.length_nil]; omega
      · have hov' : over Y.c Y.L = false := by rw [hov]; exact decide_eq_false ho
        have h10 := fun h => ho (.inl h)
        have h11 := fun h => ho (.inr (.inl h))
        have h12 := fun h => ho (.inr (.inr h))
        rw [← g1, evict_end hov', AB.with_self]
        (refine sTp ?_; repeat (refine bnd fun nb => ?_; refine sTp ?_))
        refine ent_VJ' ?_
        (refine sTp ?_; repeat (refine bnd fun nb => ?_; refine sTp ?_))
        refine ent_all fun _ => ?_
        (refine sTp ?_; repeat (refine bnd fun nb => ?_; refine sTp ?_))
        refine Ent.froze (D := dI) wHs ?_
        exact ent_ret ((_, _)) (by rfl) (by trivial) (Shift.of_picks pKs)
end Go.Proofs.Ytndanmhgbfjinaa
namespace Go.Proofs.Ytndanmhgbfjinaa
open Go Go.Sl Go.Cd
attribute [local irreducible] Try.prog cl ro mp mpI clT RowP FrP Big BufP
theorem overB_fn (b : Nat) (X : AB) : Ctr Try.prog 26 [pt b] [BufP b X] (fun _ : Unit => .bool (over X.c X.L)) (fun _ => True) (fun _ => [BufP b X]) := by
  refine Ent.openX P0 BufP.open fun ⟨v, ps⟩ he => ?_
  dsimp only at he ⊢
  have := over_fn b X.c X.L.length (sumH X.L) (sumB X.L) v X.hor X.pl X.dr X.ev
  refine Ctr.use this pKs fun _ _ => ?_
  (try dsimp only [List.cons_append, List.nil_append, List.append])
  exact ent_ret () rfl trivial (Shift.close pKs (BufP.close (b := b) he))
theorem flat_set_same {α : Type} {f : α → List Value} {l : List α} {i : Nat} {x y : α} (h : l[i]? = some x) (e : f y = f x) : flat f (l.set i y) = flat f l := by
  induction l generalizing i with
  | nil => rfl
  | cons z l ih =>
    cases i with
    | zero => simp at h; subst h; simp [flat, e]
    | succ i => simp only [List.getElem?_cons_succ] at h; simp [flat, ih h]
theorem bput_fn (b : Nat) (X : AB) (ok : X.Ok) (t i c now : Int) (s : ByteArray) (ht : 0 ≤ t ∧ t ≤ 4294967295) (hs : s.size ≤ 1000000000) :
    Ctr Try.prog 9 [pt b, .int .u32 t, .agg #[.int .i64 i, .int .i64 c], .string s, .int .i64 now] [BufP b X]
      (fun v : Value => .agg #[.int .i64 (X.put t i c s now).2.1, v]) (fun _ => True) (fun v => [Rw u32E v (X.put t i c s now).2.2, BufP b (X.put t i c s now).1]) := by
  refine ctr_of e9 ?_
  refine Ent.openX P0 BufP.open fun ⟨v, ps⟩ he => ?_
  unfold S9
  dsimp only at he ⊢
  (refine sTq ?_; repeat (refine bnd fun nb => ?_; refine sTq ?_))
  refine oI (fun h1 => ?_) fun h1 => ?_
  · have e : X.put t i c s now = (X, 5, []) := by unfold AB.put; rw [if_pos h1]
    rw [e]
    (refine sTq ?_; repeat (refine bnd fun nb => ?_; refine sTq ?_))
    refine oNil u32E ?_
    refine Ent.close (A := BufP b X) pKs (BufP.close (b := b) he) ?_
    exact ent_ret (.slice none 0 0) (by rfl) (by trivial) (Shift.of_picks pKs)
  refine oJ (X := Bool) (fun b => [.bool b]) (fun b => b = true ↔ (c < 1 ∨ c > 255 ∨ i < 0 ∨ i ≥ c)) ?_ ?_
  · (refine sTq ?_; repeat (refine bnd fun nb => ?_; refine sTq ?_))
    refine oI (fun h2 => oJ0 true rfl (by simp [h2])) fun h2 => ?_
    (refine sTq ?_; repeat (refine bnd fun nb => ?_; refine sTq ?_))
    refine oI (fun h3 => oJ0 true rfl (by simp [h3])) fun h3 => ?_
    (refine sTq ?_; repeat (refine bnd fun nb => ?_; refine sTq ?_))
    refine oI (fun h4 => oJ0 true rfl (by simp [h4])) fun h4 => ?_
    (refine sTq ?_; repeat (refine bnd fun nb => ?_; refine sTq ?_))
    exact oJ0 (decide (i ≥ c)) rfl (by simp only [decide_eq_true_eq]; omega)
  intro bad hbad j
  refine ent_VB (b := bad) (fun hb => ?_) fun hb => ?_
  · have e : X.put t i c s now = (X, 4, []) := by unfold AB.put; rw [if_neg h1, if_pos (hbad.1 hb)]
    rw [e]
    (refine sTq ?_; repeat (refine bnd fun nb => ?_; refine sTq ?_))
    refine oNil u32E ?_
    refine Ent.close (A := BufP b X) pKs (BufP.close (b := b) he) ?_
    exact ent_ret (.slice none 0 0) (by rfl) (by trivial) (Shift.of_picks pKs)
  have hok : ¬ (c < 1 ∨ c > 255 ∨ i < 0 ∨ i ≥ c) := fun h => by simp [hbad.2 h] at hb
  have eput : X.put t i c s now = evict t X (insPut t i c s now X.L).2 [] (insPut t i c s now X.L).1 := by unfold AB.put; rw [if_neg h1, if_neg hok]
  have hov := ok.over
  have hlim : X.L.length ≤ 1024 ∧ sumH X.L ≤ 65536 ∧ sumB X.L ≤ 67108864 := by
    have := ok.fr; have := ok.pk; have := ok.by_
    simp only [over, decide_eq_false_iff_not] at hov
    omega
  refine Ent.close (A := BufP b X) pKs (BufP.close (b := b) he) ?_
  (refine sTq ?_; repeat (refine bnd fun nb => ?_; refine sTq ?_))
  refine Ctr.use (frame_fn b X t c now (by omega) (by omega) (by omega) ok.rise) pKs fun x hx => ?_
  obtain ⟨⟨v2, ps2⟩, p⟩ := x
  obtain ⟨he2, F, hF⟩ := hx
  dsimp only [List.cons_append, List.nil_append, List.append] at he2 hF ⊢
  have hk2 := hF
  have hFL : (withT t c now X.L).1[(withT t c now X.L).2]? = some F := by rw [← he2, List.getElem?_map, hF]; rfl
  obtain ⟨w1, w2, w3⟩ := withT_sums t c now X.L
  have hFp := withT_parts (t := t) (count := c) (now := now) ok.parts F (List.mem_of_getElem? hFL)
  have hFh := sumH_le hFL
  have hFb := sumB_le hFL
  have hFhn := haveN_le F.parts
  obtain ⟨q1, q2, q3, q4⟩ := put_len F i c s
  have eins := insPut_eq t i c s now X.L ok.rise hFL
  generalize hL1 : (withT t c now X.L).1 = L1 at *
  generalize hk1 : (withT t c now X.L).2 = k at *
  refine Ent.bigTake (A := FrE) (p, F) P2 (perm_at hF) ?_
  unfold bufL
  (refine sTq ?_; repeat (refine bnd fun nb => ?_; refine sTq ?_))
  refine Ctr.use (add_fn b p F X.c (L1.length : Int) (sumH L1 : Int) (sumB L1 : Int) v2 X.hor X.pl X.dr X.ev (-1) (by omega) (by omega) (by omega) hFp (by omega) (.inr rfl)) pKs fun _ _ => ?_
  (refine sTq ?_; repeat (refine bnd fun nb => ?_; refine sTq ?_))
  refine Ctr.use (put_fn p F i c s (by omega)) pKs fun _ _ => ?_
  (refine sTq ?_; repeat (refine bnd fun nb => ?_; refine sTq ?_))
  generalize hG : (F.put i c s).1 = G at *
  generalize hkind : (F.put i c s).2 = kind at *
  refine Ctr.use (add_fn b p G X.c ((L1.length : Int) + -1) ((sumH L1 : Int) + -1 * haveN F.parts) ((sumB L1 : Int) + -1 * bytesN F.parts) v2 X.hor X.pl X.dr X.ev 1 (by omega) (by omega) (by omega) (by omega) (by omega) (.inl rfl)) pKs fun _ _ => ?_
  (try dsimp only [List.cons_append, List.nil_append, List.append])
  refine Ent.bigPut (A := FrE) (xs := ps2.set k (p, G)) (p, G) pKs (perm_set (List.getElem?_eq_some_iff.1 hF).1 (p, G)) ?_
  have hrow : Rw ptE v2 (ps2.set k (p, G)) = Rw ptE v2 ps2 := by
    unfold Rw
    rw [List.length_set, flat_set_same hF (by rfl)]
  have hc : bufR X.c (L1.set k G).length (sumH (L1.set k G)) (sumB (L1.set k G)) v2 X.hor X.pl X.dr X.ev =
      bufR X.c (L1.length + -1 + 1) (sumH L1 + -1 * haveN F.parts + 1 * haveN G.parts) (sumB L1 + -1 * bytesN F.parts + 1 * bytesN G.parts) v2 X.hor X.pl X.dr X.ev := by
    rw [List.length_set, sumH_set hFL, sumB_set hFL]
    congr 1 <;> omega
  have hmap : (ps2.set k (p, G)).map Prod.snd = L1.set k G := by rw [List.map_set, he2]
  refine Ent.close (A := BufP b (X.with (L1.set k G))) (m := [cl b (bufR X.c (L1.set k G).length (sumH (L1.set k G)) (sumB (L1.set k G)) v2 X.hor X.pl X.dr X.ev), Rw ptE v2 (ps2.set k (p, G)), Big FrE (ps2.set k (p, G))])
    (by rw [hrow, hc]; exact pKs) (BufP.close (b := b) (X := X.with (L1.set k G)) hmap) ?_
  have hQ : ∀ H ∈ L1.set k G, H.parts.length ≤ 255 ∧ 0 ≤ H.time ∧ H.time ≤ 4294967295 := by
    have h0 : ∀ H ∈ L1, H.parts.length ≤ 255 ∧ 0 ≤ H.time ∧ H.time ≤ 4294967295 := by
      rw [← hL1]
      exact withT_all (fun H hH => ⟨ok.parts H hH, (ok.time H hH).2⟩) ⟨by simp only [AF.new, List.length_replicate]; omega, ht⟩
    exact set_all h0 k ⟨by omega, by rw [q2]; exact (h0 F (List.mem_of_getElem? hFL)).2⟩
  have hlen2 : (L1.set k G).length ≤ 1025 := by rw [List.length_set]; omega
  have hH2 : sumH (L1.set k G) ≤ 65537 := by have := sumH_set hFL G; omega
  have hB2 : sumB (L1.set k G) ≤ 1067108864 := by have := sumB_set hFL G; omega
  rw [eput, eins]
  dsimp only
  refine oNil u32E ?_
  refine ent_VL (X := AB × Int × List Int × Value) (fun _ => [])
    (fun x => evict t x.1 x.2.1 x.2.2.1 x.1.L = evict t X kind [] (L1.set k G) ∧ x.1.c = X.c ∧ (∀ H ∈ x.1.L, H.parts.length ≤ 255 ∧ 0 ≤ H.time ∧ H.time ≤ 4294967295) ∧ x.1.L.length + x.2.2.1.length ≤ 1025 ∧ sumH x.1.L ≤ 65537 ∧ sumB x.1.L ≤ 1067108864)
    (fun x => x.1.L.length) (fun x => [BufP b x.1, cl nb [.int .i64 x.2.1, x.2.2.2], Rw u32E x.2.2.2 x.2.2.1])
    (X.with (L1.set k G), kind, [], .slice none 0 0) rfl ⟨evict_with _ _ _ _ _ _, rfl, hQ, by simpa [AB.with] using hlen2, hH2, hB2⟩ pKs ?_
  rintro ⟨Y, kd, gone, o⟩ ⟨g1, g2, g3, g4, g5, g6⟩ j2
  dsimp only [List.cons_append, List.nil_append, List.append] at g1 g2 g3 g4 g5 g6 ⊢
  refine Ctr.use (overB_fn b Y) pKs fun _ _ => ?_
  (try dsimp only [List.cons_append, List.nil_append, List.append])
  refine ent_VB (fun hov => ?_) fun hov => ?_
  · cases hYL : Y.L with
    | nil =>
      rw [hYL, g2] at hov
      rw [over_nil ok.fr.1 ok.pk.1 ok.by_.1] at hov; cases hov
    | cons H L =>
      rw [hYL] at hov g1 g3 g4 g5 g6
      obtain ⟨r1, r2, r3⟩ := g3 H (by simp)
      simp only [List.length_cons] at g4
      refine Ctr.use (pop_fn b Y H L hYL (by rw [hYL, List.length_cons]; omega) (by rw [hYL]; omega) (by rw [hYL]; omega) r1 ⟨r2, r3⟩) pKs fun p2 _ => ?_
      (try dsimp only [List.cons_append, List.nil_append, List.append])
      refine Ctr.use (time_fn p2 H) pKs fun _ _ => ?_
      (try dsimp only [List.cons_append, List.nil_append, List.append])
      refine Ent.openX (A := BufP b ⟨Y.c, L, H.time, Y.pl, Y.dr, Y.ev⟩) P1 BufP.open fun ⟨v3, ps3⟩ he3 => ?_
      dsimp only at he3
      (try dsimp only [List.cons_append, List.nil_append, List.append])
      refine ent_O rfl ?_
      refine ent_O rfl ?_
      refine oL rfl ?_
      refine ent_O rfl ?_
      refine ent_O rfl ?_
      refine ent_O rfl ?_
      refine oS rfl rfl rfl rfl ?_
      refine ent_O rfl ?_
      refine oL rfl ?_
      refine ent_BS rfl fun nb3 => ?_
      refine oPush (s := o) (f := u32E) (xs := gone) (by rfl) (by trivial) (by rfl) (by rfl) H.time (by rfl) (by decide) (by omega) fun o' => ?_
      refine oSl o' fun base cap e => ?_
      subst e
      refine ent_O rfl ?_
      refine oS rfl rfl rfl rfl ?_
      refine Ent.close (A := BufP b ⟨Y.c, L, H.time, Y.pl, Y.dr, wr64 (Y.ev + 1)⟩) (m := [cl b (bufR Y.c L.length (sumH L) (sumB L) v3 H.time Y.pl Y.dr (wr64 (Y.ev + 1))), Rw ptE v3 ps3, Big FrE ps3]) pKs (BufP.close (b := b) (X := ⟨Y.c, L, H.time, Y.pl, Y.dr, wr64 (Y.ev + 1)⟩) he3) ?_
      refine oEq ?_
      have hev := evict_over (t := t) (X := Y) (kind := kd) (out := gone) hov
      have hl2 : (gone ++ [H.time]).length = gone.length + 1 := by simp
      have s1 : sumH L ≤ sumH (H :: L) := by simp [sumH]
      have s2 : sumB L ≤ sumB (H :: L) := by simp [sumB]
      refine oI (fun heq => ?_) fun heq => ?_
      · refine ent_O rfl ?_
        refine oS rfl rfl rfl rfl ?_
        exact ent_again (⟨Y.c, L, H.time, Y.pl, Y.dr, wr64 (Y.ev + 1)⟩, 6, gone ++ [H.time], .slice base (gone ++ [H.time]).length cap) (by rfl)
          ⟨by rw [hev, if_pos heq] at g1; exact g1, g2, fun K hK => g3 K (by simp [hK]), by dsimp only; omega, by dsimp only; omega, by dsimp only; omega⟩ (by dsimp only; simp) pKs
      · exact ent_again (⟨Y.c, L, H.time, Y.pl, Y.dr, wr64 (Y.ev + 1)⟩, kd, gone ++ [H.time], .slice base (gone ++ [H.time]).length cap) (by rfl)
          ⟨by rw [hev, if_neg heq] at g1; exact g1, g2, fun K hK => g3 K (by simp [hK]), by dsimp only; omega, by dsimp only; omega, by dsimp only; omega⟩ (by dsimp only; simp) pKs
  · have hend := evict_end (t := t) (X := Y) (kind := kd) (out := gone) (L := Y.L) (by simpa using hov)
    rw [← g1, hend, AB.with_self]
    refine oSl o fun base cap e => ?_
    subst e
    (refine sTq ?_; repeat (refine bnd fun nb => ?_; refine sTq ?_))
    exact ent_ret (.slice base gone.length cap) (by rfl) (by trivial) (Shift.of_picks pKs)
end Go.Proofs.Ytndanmhgbfjinaa
namespace Go.Proofs.Ytndanmhgbfjinaa
open Go Go.Sl Go.Cd
attribute [local irreducible] Try.prog cl ro mp mpI clT RowP FrP Big BufP
def plE (x : Int × ByteArray) : List Value := [.int .u32 x.1, .string x.2]
instance : Sized plE 2 := ⟨fun _ => rfl, fun _ => rfl⟩
theorem bplay_fn (b : Nat) (X : AB) (hl : X.L.length ≤ 10000) (hH : sumH X.L ≤ 1000000000) (hB : sumB X.L ≤ 70368744177664) (hQ : ∀ H ∈ X.L, H.parts.length ≤ 255 ∧ 0 ≤ H.time ∧ H.time ≤ 4294967295) (now delay most : Int) :
    Ctr Try.prog 10 [pt b, .int .i64 now, .int .i64 delay, .int .i64 most] [BufP b X] (fun x : Value × Value => .tuple #[x.1, x.2]) (fun _ => True)
      (fun x => [Rw plE x.1 (X.play now delay most).2.1, Rw u32E x.2 (X.play now delay most).2.2, BufP b (X.play now delay most).1]) := by
  refine ctr_of e10 ?_
  unfold S10
  refine oNil plE ?_
  refine oNil u32E ?_
  refine ent_VL (X := AB × Value × Value × List (Int × ByteArray) × List Int) (fun x => [x.2.1, x.2.2.1])
    (fun x => playL now delay most x.1 x.2.2.2.1 x.2.2.2.2 x.1.L = X.play now delay most ∧ (∀ H ∈ x.1.L, H.parts.length ≤ 255 ∧ 0 ≤ H.time ∧ H.time ≤ 4294967295) ∧ x.1.L.length + x.2.2.2.1.length + x.2.2.2.2.length ≤ 10000 ∧ sumH x.1.L ≤ 1000000000 ∧ sumB x.1.L ≤ 70368744177664)
    (fun x => x.1.L.length) (fun x => [BufP b x.1, Rw plE x.2.1 x.2.2.2.1, Rw u32E x.2.2.1 x.2.2.2.2])
    (X, .slice none 0 0, .slice none 0 0, [], []) rfl ⟨rfl, hQ, by simpa using hl, hH, hB⟩ pKs ?_
  rintro ⟨Y, o1, o2, out, gone⟩ ⟨g1, g2, g3, g4, g5⟩ j
  dsimp only [List.cons_append, List.nil_append, List.append] at g1 g2 g3 g4 g5 ⊢
  refine Ent.openX (A := BufP b Y) P0 BufP.open fun ⟨v, ps⟩ he => ?_
  dsimp only [List.cons_append, List.nil_append, List.append] at he ⊢
  have hpl : ps.length = Y.L.length := by rw [← he, List.length_map]
  (refine sTq ?_; repeat (refine bnd fun nb => ?_; refine sTq ?_))
  refine oLenE (f := ptE) (xs := ps) rfl ?_
  refine ent_O rfl ?_
  refine oI (fun hgt => ?_) fun hgt => ?_
  · cases hYL : Y.L with
    | nil => rw [hYL] at hpl; simp at hpl; subst hpl; simp at hgt
    | cons H L =>
    rw [hYL] at he g1 g2 g3 g4 g5
    obtain ⟨⟨p, H'⟩, qs, rfl⟩ : ∃ x qs, ps = x :: qs := by
      cases ps with
      | nil => simp at he
      | cons x qs => exact ⟨x, qs, rfl⟩
    simp only [List.map_cons, List.cons.injEq] at he
    obtain ⟨e1, e2⟩ := he
    subst e1
    obtain ⟨r1, r2, r3⟩ := g2 H' (by simp)
    have hb : bytesN H'.parts ≤ 70368744177664 := by simp only [sumB] at g5; omega
    refine ent_O rfl ?_
    refine ent_O rfl ?_
    refine oL rfl ?_
    refine oAt (f := ptE) (xs := (p, H') :: qs) rfl (by decide) rfl rfl ?_
    refine Ctr.useAt (A := FrE) (x := (p, H')) (i := 0) (data_fn p H' hb r1) (by first | exact P0 | exact P1 | exact P2 | exact P3 | exact P4) rfl fun _ _ => ?_
    refine ent_O rfl ?_
    refine ent_O rfl ?_
    refine ent_O rfl ?_
    refine ent_O rfl ?_
    refine oL rfl ?_
    refine oAt (f := ptE) (xs := (p, H') :: qs) rfl (by decide) rfl rfl ?_
    refine Ctr.useAt (A := FrE) (x := (p, H')) (i := 0) (first_fn p H') (by first | exact P0 | exact P1 | exact P2 | exact P3 | exact P4) rfl fun _ _ => ?_
    refine ent_O rfl ?_
    refine Ent.close (A := BufP b Y) (m := [cl b (bufR Y.c Y.L.length (sumH Y.L) (sumB Y.L) v Y.hor Y.pl Y.dr Y.ev), Rw ptE v ((p, H') :: qs), Big FrE ((p, H') :: qs)]) (by rw [hYL]; exact pKs)
      (BufP.close (b := b) (X := Y) (by rw [hYL, List.map_cons, e2])) ?_
    refine oJ (X := Bool) (fun b => [.bool b]) (fun b => b = true ↔ (H'.whole = true ∧ wr64 (now - H'.first) ≥ delay)) ?_ ?_
    · refine ent_VB (b := H'.whole) (fun hw => ?_) fun hw => ?_
      · refine ent_O rfl ?_
        exact oJ0 (decide (wr64 (now - H'.first) ≥ delay)) (by rfl) (by simp [hw])
      · exact oJ0 false (by rfl) (by simp [hw])
    intro pb hpb j2
    have hpop := fun (hl0 : Y.L.length ≤ 100000) => pop_fn b Y H' L hYL hl0 (by rw [hYL]; exact g4) (by rw [hYL]; exact g5) r1 ⟨r2, r3⟩
    simp only [List.length_cons] at g3
    have s1 : sumH L ≤ sumH (H' :: L) := by simp [sumH]
    have s2 : sumB L ≤ sumB (H' :: L) := by simp [sumB]
    refine ent_VB (b := pb) (fun hb1 => ?_) fun hb1 => ?_
    · have hcond := hpb.1 hb1
      refine Ctr.use (hpop (by rw [hYL, List.length_cons]; omega)) pKs fun p2 _ => ?_
      (try dsimp only [List.cons_append, List.nil_append, List.append])
      refine Ctr.use (time_fn p2 H') pKs fun _ _ => ?_
      (try dsimp only [List.cons_append, List.nil_append, List.append])
      refine ent_O rfl ?_
      refine ent_BS rfl fun nb3 => ?_
      refine oPush (s := o1) (f := plE) (xs := out) (by rfl) (by trivial) (by rfl) (by rfl) (H'.time, H'.data) (by rfl) (by decide) (by omega) fun o' => ?_
      refine Ent.openX (A := BufP b ⟨Y.c, L, H'.time, Y.pl, Y.dr, Y.ev⟩) (by first | exact P0 | exact P1 | exact P2 | exact P3 | exact P4) BufP.open fun ⟨v3, ps3⟩ he3 => ?_
      dsimp only at he3
      (try dsimp only [List.cons_append, List.nil_append, List.append])
      refine ent_O rfl ?_
      refine ent_O rfl ?_
      refine oL rfl ?_
      refine ent_O rfl ?_
      refine ent_O rfl ?_
      refine ent_O rfl ?_
      refine oS rfl rfl rfl rfl ?_
      refine Ent.close (A := BufP b ⟨Y.c, L, H'.time, wr64 (Y.pl + 1), Y.dr, Y.ev⟩) (m := [cl b (bufR Y.c L.length (sumH L) (sumB L) v3 H'.time (wr64 (Y.pl + 1)) Y.dr Y.ev), Rw ptE v3 ps3, Big FrE ps3]) pKs (BufP.close (b := b) (X := ⟨Y.c, L, H'.time, wr64 (Y.pl + 1), Y.dr, Y.ev⟩) he3) ?_
      exact ent_again (⟨Y.c, L, H'.time, wr64 (Y.pl + 1), Y.dr, Y.ev⟩, o', o2, out ++ [(H'.time, H'.data)], gone) (by rfl)
        ⟨by simp only [playL] at g1; rw [if_pos hcond] at g1; exact g1, fun K hK => g2 K (by simp [hK]), by simp only [List.length_append, List.length_cons, List.length_nil]; omega, by dsimp only; omega, by dsimp only; omega⟩ (by dsimp only; simp) pKs
    · have hcond : ¬ (H'.whole = true ∧ wr64 (now - H'.first) ≥ delay) := fun h => by simp [hpb.2 h] at hb1
      refine ent_O rfl ?_
      refine oI (fun (hm : wr64 (now - H'.first) ≥ most) => ?_) fun (hm : ¬ wr64 (now - H'.first) ≥ most) => ?_
      · refine Ctr.use (hpop (by rw [hYL, List.length_cons]; omega)) pKs fun p2 _ => ?_
        (try dsimp only [List.cons_append, List.nil_append, List.append])
        refine Ctr.use (time_fn p2 H') pKs fun _ _ => ?_
        (try dsimp only [List.cons_append, List.nil_append, List.append])
        refine ent_BS rfl fun nb3 => ?_
        refine oPush (s := o2) (f := u32E) (xs := gone) (by rfl) (by trivial) (by rfl) (by rfl) H'.time (by rfl) (by decide) (by omega) fun o' => ?_
        refine Ent.openX (A := BufP b ⟨Y.c, L, H'.time, Y.pl, Y.dr, Y.ev⟩) (by first | exact P0 | exact P1 | exact P2 | exact P3 | exact P4) BufP.open fun ⟨v3, ps3⟩ he3 => ?_
        dsimp only at he3
        (try dsimp only [List.cons_append, List.nil_append, List.append])
        refine ent_O rfl ?_
        refine ent_O rfl ?_
        refine oL rfl ?_
        refine ent_O rfl ?_
        refine ent_O rfl ?_
        refine ent_O rfl ?_
        refine oS rfl rfl rfl rfl ?_
        refine Ent.close (A := BufP b ⟨Y.c, L, H'.time, Y.pl, wr64 (Y.dr + 1), Y.ev⟩) (m := [cl b (bufR Y.c L.length (sumH L) (sumB L) v3 H'.time Y.pl (wr64 (Y.dr + 1)) Y.ev), Rw ptE v3 ps3, Big FrE ps3]) pKs (BufP.close (b := b) (X := ⟨Y.c, L, H'.time, Y.pl, wr64 (Y.dr + 1), Y.ev⟩) he3) ?_
        exact ent_again (⟨Y.c, L, H'.time, Y.pl, wr64 (Y.dr + 1), Y.ev⟩, o1, o', out, gone ++ [H'.time]) (by rfl)
          ⟨by simp only [playL] at g1; rw [if_neg hcond, if_pos hm] at g1; exact g1, fun K hK => g2 K (by simp [hK]), by simp only [List.length_append, List.length_cons, List.length_nil]; omega, by dsimp only; omega, by dsimp only; omega⟩ (by dsimp only; simp) pKs
      · have hend : X.play now delay most = (Y, out, gone) := by
          rw [← g1]; simp only [playL]; rw [if_neg hcond, if_neg hm, ← hYL]
        rw [hend]
        exact ent_ret (o1, o2) (by rfl) (by trivial) (Shift.of_picks pKs)
  · have hnil : Y.L = [] := by
      cases hYL : Y.L with
      | nil => rfl
      | cons H L => exfalso; rw [hYL, List.length_cons] at hpl; apply hgt; show (ps.length : Int) > 0; omega
    have hend : X.play now delay most = (Y, out, gone) := by
      rw [← g1, hnil]; simp only [playL]; rw [← hnil]
    rw [hend]
    refine Ent.close (A := BufP b Y) pKs (BufP.close (b := b) he) ?_
    exact ent_ret (o1, o2) (by rfl) (by trivial) (Shift.of_picks pKs)
end Go.Proofs.Ytndanmhgbfjinaa
namespace Go.Proofs.Ytndanmhgbfjinaa
open Go Go.Sl Go.Cd
attribute [local irreducible] Try.prog cl ro mp mpI clT RowP FrP Big LV OV AV O Ld St Nw VB BS Cl Rd Runs OpR VJ VL RdK MSl Cv And2 Bnd binV cvV minV maxV aggO
def dPl : Dt (Int × ByteArray) 2 := Dt.of (fun x => [.int .i64 x.1, .string x.2]) (fun _ => rfl) (fun _ => rfl)
set_option maxHeartbeats 4000000 in
theorem bplay_ref (X : AB) (cs : List Value) (hl : X.L.length ≤ 10000) (hQ : ∀ H ∈ X.L, H.parts.length ≤ 255) (hB : sumB X.L ≤ 70368744177664) (now delay most : Int) :
    Ctr Try.prog 32 [aggV cs, .int .i64 now, .int .i64 delay, .int .i64 most] [dB.rep X cs]
      (fun x : List Value × Value × Value => .tuple #[aggV x.1, x.2.1, x.2.2]) (fun _ => True) (fun x => [dB.rep (X.play now delay most).1 x.1, LV dPl x.2.1 (X.play now delay most).2.1, LV dI x.2.2 (X.play now delay most).2.2]) := by
  refine ctr_of e32 ?_
  refine dB.opn fun a0 c0 e => ?_
  subst e
  unfold S32
  refine oN fun b1 => oN fun b2 => ?_
  refine oBS nMs fun nb1 => ?_
  refine oBS nMs fun nb2 => ?_
  refine Ent.mk0 dPl (b := nb1) wHs ?_
  refine Ent.mk0 dI (b := nb2) wHs ?_
  refine ent_loopD (S := AB × Value × List (Int × ByteArray) × Value × List Int × Option Addr × Nat) (fun x => [x.2.1, x.2.2.2.1])
    (fun x => playL now delay most x.1 x.2.2.1 x.2.2.2.2.1 x.1.L = X.play now delay most ∧ (∀ H ∈ x.1.L, H.parts.length ≤ 255) ∧ x.1.L.length + x.2.2.1.length + x.2.2.2.2.1.length ≤ 10000 ∧ sumB x.1.L ≤ 70368744177664)
    (fun x => x.1.L.length) (fun x => [cl b1 (bC x.1 x.2.2.2.2.2.1 x.2.2.2.2.2.2), LV dF (.slice x.2.2.2.2.2.1 x.1.L.length x.2.2.2.2.2.2) x.1.L, OV dPl x.2.1 x.2.2.1, OV dI x.2.2.2.1 x.2.2.2.2.1, cl b2 bufZ])
    (X, _, [], _, [], a0, c0) rfl ⟨rfl, hQ, by simpa using hl, hB⟩ pKs ?_
  rintro ⟨Y, o1, out, o2, gone, a, c⟩ ⟨g1, g2, g3, g4⟩ j kk ag
  dsimp only at g1 g2 g3 g4 ⊢
  unfold bC
  by_cases h0 : Y.L.length = 0
  · have hnil : Y.L = [] := List.length_eq_zero_iff.1 h0
    rw [← g1]
    have e : playL now delay most Y out gone Y.L = (Y, out, gone) := by rw [hnil]; simp only [playL]; rw [← hnil]
    rw [e]
    (refine sTp ?_; repeat (refine bnd fun nb => ?_; refine sTp ?_))
    refine Ent.froze (D := dPl) wHs ?_
    refine Ent.froze (v := o2) (D := dI) wHs ?_
    refine Ent.add (A := dB.rep Y (bC Y a c)) (fun h s => dB.close (by revert h s; exact hAs)) ?_
    exact ent_ret ((_, _, _)) (by rfl) (by trivial) (Shift.of_picks pKs)
  obtain ⟨H, L, hYL⟩ : ∃ H L, Y.L = H :: L := by
    cases hYL : Y.L with
    | nil => rw [hYL] at h0; simp at h0
    | cons H L => exact ⟨H, L, rfl⟩
  have hl0 : Y.L[0]? = some H := by rw [hYL]; rfl
  have hl1 : Y.L.length = L.length + 1 := by rw [hYL]; rfl
  have hl2 : (Y.L.take Y.L.length).drop 1 = L := by rw [List.take_length, hYL]; rfl
  have hs2 : sumB L ≤ sumB Y.L := by rw [hYL]; simp [sumB]
  have hH := g2 H (by rw [hYL]; simp)
  have hB' := sumB_le hl0
  have hQ2 : ∀ K ∈ L, K.parts.length ≤ 255 := fun K hK => g2 K (by rw [hYL]; simp [hK])
  have hk := lk_length H.parts
  have hle := haveN_le H.parts
  rw [hYL] at g1
  simp only [playL] at g1
  (refine sTp ?_; repeat (refine bnd fun nb => ?_; refine sTp ?_))
  refine oAtD 0 rfl (by omega) fun H' hs' hH' => ?_
  rw [hl0] at hH'
  obtain rfl := Option.some.inj hH'
  refine dF.opn fun a1 c1 a2 c2 e => ?_
  subst e
  refine rdkW rfl ?_
  refine oN fun b3 => ?_
  (refine sTp ?_; repeat (refine bnd fun nb => ?_; refine sTp ?_))
  have hw : H.whole = true ↔ (lk H.parts).length = 0 := by simp only [AF.whole, decide_eq_true_eq]; omega
  refine ent_VJ (X := Value × Value × List (Int × ByteArray) × List Int × AB) (fun x => [x.1, x.2.1])
    (fun x => playL now delay most x.2.2.2.2 x.2.2.1 x.2.2.2.1 L = X.play now delay most ∧ x.2.2.2.2.L = L ∧ x.2.2.2.2.hor = H.time ∧ L.length + x.2.2.1.length + x.2.2.2.1.length ≤ 10000)
    (fun x => [cl b1 (bC ⟨x.2.2.2.2.c, Y.L, Y.hor, x.2.2.2.2.pl, x.2.2.2.2.dr, x.2.2.2.2.ev⟩ a c), LV dF (.slice a Y.L.length c) Y.L, OV dPl x.1 x.2.2.1, OV dI x.2.1 x.2.2.2.1, cl b2 bufZ,
      cl b3 [.int .i64 H.time, .int .i64 H.first, .slice a1 (hasL H.parts).length c1, .slice a2 (strL H.parts).length c2]]) ?_ ?_
  · refine ent_VJ' ?_
    (refine sTp ?_; repeat (refine bnd fun nb => ?_; refine sTp ?_))
    refine Ctr.use (lacks_fn H _ hH) pKs fun v _ => ?_
    have hw64 : wr64 (now - H.first) = IntKind.i64.wrap (now - H.first) := rfl
    rw [hw64] at g1
    by_cases hA : H.whole = true ∧ IntKind.i64.wrap (now - H.first) ≥ delay
    · have q1 := hw.1 hA.1
      have q2 := hA.2
      rw [if_pos hA] at g1
      have hd : H.whole = true := hA.1
      (refine sTp ?_; repeat (refine bnd fun nb => ?_; refine sTp ?_))
      refine ent_all fun _ => ?_
      (refine sTp ?_; repeat (refine bnd fun nb => ?_; refine sTp ?_))
      refine Ctr.use (data_ref H _ hH (by omega)) pKs fun _ _ => ?_
      (refine sTp ?_; repeat (refine bnd fun nb => ?_; refine sTp ?_))
      refine oBS nMs fun nb => ?_
      refine oPushD (s := o1) (D := dPl) rfl rfl rfl (by decide) (H.time, H.data) (fun h s => rfl) (by omega) fun o1' => ?_
      (refine sTp ?_; repeat (refine bnd fun nb => ?_; refine sTp ?_))
      exact ent_join (o1', o2, out ++ [(H.time, H.data)], gone, ⟨Y.c, L, H.time, wr64 (Y.pl + 1), Y.dr, Y.ev⟩) (by rfl) ⟨g1, rfl, rfl, by simp only [List.length_append, List.length_cons, List.length_nil]; omega⟩ pKs
    rw [if_neg hA] at g1
    have hA' : (lk H.parts).length = 0 → ¬ IntKind.i64.wrap (now - H.first) ≥ delay := fun h h' => hA ⟨hw.2 h, h'⟩
    by_cases q1 : (lk H.parts).length = 0
    all_goals
      (try have q2 := hA' q1)
      (refine sTp ?_; repeat (refine bnd fun nb => ?_; refine sTp ?_))
      refine ent_all fun _ => ?_
      by_cases q3 : IntKind.i64.wrap (now - H.first) ≥ most
      · rw [if_pos q3] at g1
        (refine sTp ?_; repeat (refine bnd fun nb => ?_; refine sTp ?_))
        refine oBS nMs fun nb => ?_
        refine oPushD (s := o2) (D := dI) rfl rfl rfl (by decide) H.time (fun h s => rfl) (by omega) fun o2' => ?_
        (refine sTp ?_; repeat (refine bnd fun nb => ?_; refine sTp ?_))
        exact ent_join (o1, o2', out, gone ++ [H.time], ⟨Y.c, L, H.time, Y.pl, wr64 (Y.dr + 1), Y.ev⟩) (by rfl) ⟨g1, rfl, rfl, by simp only [List.length_append, List.length_cons, List.length_nil]; omega⟩ pKs
      · rw [if_neg q3, ← hYL] at g1
        rw [← g1]
        (refine sTp ?_; repeat (refine bnd fun nb => ?_; refine sTp ?_))
        refine Ent.froze (D := dPl) wHs ?_
        refine Ent.froze (v := o2) (D := dI) wHs ?_
        refine Ent.add (A := dB.rep Y (bC Y a c)) (fun h s => dB.close (by revert h s; exact hAs)) ?_
        exact ent_ret ((_, _, _)) (by rfl) (by trivial) (Shift.of_picks pKs)
  · rintro ⟨o1', o2', out', gone', Y'⟩ ⟨k1, k2, k3, k4⟩ j2
    dsimp only at k1 k2 k3 k4 ⊢
    unfold bC
    (refine sTp ?_; repeat (refine bnd fun nb => ?_; refine sTp ?_))
    refine oCutD (D := dF) hAs 1 Y.L.length (by omega) (Nat.le_refl _) (bnd_i (by decide) (by omega)) (fun _ _ => rfl) fun u => ?_
    refine oSlD u fun a6 c6 e6 => ?_
    subst e6
    rw [hl2]
    (refine sTp ?_; repeat (refine bnd fun nb => ?_; refine sTp ?_))
    obtain ⟨cc, L', hor', pl', dr', ev'⟩ := Y'
    dsimp only at k2 k3
    subst k2 k3
    refine Ent.again (ag (⟨cc, _, H.time, pl', dr', ev'⟩, o1', out', o2', gone', a6, c6) ⟨k1, hQ2, k4, by dsimp only; omega⟩ (by dsimp only; omega)) (by rfl) pKs
end Go.Proofs.Ytndanmhgbfjinaa
namespace Go.Proofs.Ytndanmhgbfjinaa
open Go Go.Sl Go.Cd
attribute [local irreducible] Try.prog cl ro mp mpI clT RowP FrP Big LV OV AV O Ld St Nw VB BS Cl Rd Runs OpR VJ VL RdK MSl Cv And2 Bnd binV cvV minV maxV aggO
theorem bclone_fn (b : Nat) (X : AB) (hl : X.L.length ≤ 10000) : Ctr Try.prog 22 [pt b] [BufP b X] pt (fun _ : Nat => True) (fun nb => [BufP nb X, BufP b X]) := by
  refine ctr_of e22 ?_
  refine Ent.openX P0 BufP.open fun ⟨v, ps⟩ he => ?_
  unfold S22
  dsimp only [List.cons_append, List.nil_append] at he ⊢
  have hpl : ps.length = X.L.length := by rw [← he, List.length_map]
  refine oSl v fun base cap e => ?_
  subst e
  unfold bufR
  (refine sTp ?_; repeat (refine bnd fun nb => ?_; refine sTp ?_))
  refine oNil ptE ?_
  refine Ent.bigNil FrE ?_
  let bf : Value → List Value := fun w => bufR X.c X.L.length (sumH X.L) (sumB X.L) w X.hor X.pl X.dr X.ev
  refine ent_rangeD (S := Value × List (Nat × AF)) ps.length (fun i _ => [.int .i64 i]) (fun i s => s.2.map Prod.snd = (ps.take i).map Prod.snd)
    (fun i s => [cl nb (bf s.1), Rw ptE s.1 s.2, Big FrE s.2, cl b (bf (.slice base ps.length cap)), Rw ptE (.slice base ps.length cap) ps, Big FrE ps])
    (.slice none 0 0, []) rfl rfl pKs ?_ ?_
  · rintro i ⟨w, qs⟩ hs hi j kk ag
    dsimp only [bf, bufR] at hs ag ⊢
    have hx : ps[i]? = some ps[i] := List.getElem?_eq_getElem hi
    have hq : qs.length = i := by rw [← List.length_map (f := Prod.snd), hs, List.length_map, List.length_take]; omega
    (refine sTp ?_; repeat (refine bnd fun nb => ?_; refine sTp ?_))
    refine oAt (f := ptE) (xs := ps) rfl (by omega) (by rw [Int.toNat_natCast]; exact hx) rfl ?_
    (refine sTp ?_; repeat (refine bnd fun nb => ?_; refine sTp ?_))
    refine Ent.bigTake (A := FrE) (xs := ps) ps[i] wHs (perm_at hx) ?_
    refine Ctr.use (clone_fn ps[i].1 ps[i].2) pKs fun np _ => ?_
    (try dsimp only [List.cons_append, List.nil_append, List.append])
    refine Ent.bigPut (A := FrE) (xs := ps) ps[i] pKs (perm_at hx).symm ?_
    refine Ent.bigPut (A := FrE) (xs := qs ++ [(np, ps[i].2)]) (np, ps[i].2) pKs (List.perm_append_comm (l₁ := [_]) (l₂ := qs)) ?_
    (refine sTp ?_; repeat (refine bnd fun nb => ?_; refine sTp ?_))
    refine oBS nMs fun nb2 => ?_
    refine oPush (s := w) (f := ptE) (xs := qs) (by rfl) (by trivial) (by rfl) (by rfl) (np, ps[i].2) (by rfl) (by decide) (by omega) fun w2 => ?_
    refine oSl w2 fun base2 cap2 e => ?_
    subst e
    (refine sTp ?_; repeat (refine bnd fun nb => ?_; refine sTp ?_))
    exact Ent.again (ag (_, qs ++ [(np, ps[i].2)]) (by rw [List.map_append, hs, map_take hx]; rfl)) (by rfl) pKs
  · rintro ⟨w, qs⟩ hs j kk
    dsimp only [bf] at hs ⊢
    rw [List.take_length, he] at hs
    (refine sTp ?_; repeat (refine bnd fun nb => ?_; refine sTp ?_))
    refine Ent.close (A := BufP nb X) pKs (BufP.close (b := nb) hs) ?_
    refine Ent.close (A := BufP b X) pKs (BufP.close (b := b) he) ?_
    exact ent_ret (nb) (by rfl) (by trivial) (Shift.of_picks pKs)
end Go.Proofs.Ytndanmhgbfjinaa
namespace Go.Cd
open Go Go.Sl
theorem put_time (F : AF) (i c : Int) (s : ByteArray) : (F.put i c s).1.time = F.time := (put_len F i c s).2.1
theorem insPut_all {t i c now : Int} {s : ByteArray} {Q : AF → Prop} : ∀ {L : List AF}, (∀ F ∈ L, Q F) → Q ((AF.new t c now).put i c s).1 → (∀ F ∈ L, F.time = t → Q (F.put i c s).1) → ∀ F ∈ (insPut t i c s now L).1, Q F
  | [], _, hn, _ => fun F hF => by simp [insPut] at hF; subst hF; exact hn
  | G :: L, h, hn, hp => fun F hF => by
    simp only [insPut] at hF
    split at hF
    · rename_i e
      rcases List.mem_cons.1 hF with rfl | hF
      · exact hp G (by simp) e
      · exact h F (by simp [hF])
    · split at hF
      · rcases List.mem_cons.1 hF with rfl | hF
        · exact hn
        · exact h F hF
      · rcases List.mem_cons.1 hF with rfl | hF
        · exact h F (by simp)
        · exact insPut_all (fun F hF => h F (by simp [hF])) hn (fun F hF => hp F (by simp [hF])) F hF
theorem insPut_rise {t i c now : Int} {s : ByteArray} : ∀ {L : List AF}, L.Pairwise (fun a b => a.time < b.time) → (insPut t i c s now L).1.Pairwise (fun a b => a.time < b.time)
  | [], _ => by simp [insPut]
  | G :: L, h => by
    rw [List.pairwise_cons] at h
    simp only [insPut]
    split
    · rename_i e
      exact List.pairwise_cons.2 ⟨fun F hF => by rw [put_time]; exact h.1 F hF, h.2⟩
    · rename_i e
      split
      · rename_i e2
        refine List.pairwise_cons.2 ⟨fun F hF => ?_, List.pairwise_cons.2 h⟩
        rw [put_time]
        show t < F.time
        rcases List.mem_cons.1 hF with rfl | hF
        · exact e2
        · have := h.1 F hF; omega
      · rename_i e2
        refine List.pairwise_cons.2 ⟨?_, insPut_rise h.2⟩
        refine insPut_all h.1 ?_ fun F hF e => ?_
        · rw [put_time]; show G.time < t; omega
        · rw [put_time]; exact h.1 F hF
structure OkL (X : AB) (L : List AF) : Prop where
  fr : 1 ≤ X.c.fr ∧ X.c.fr ≤ 1024
  pk : 1 ≤ X.c.pk ∧ X.c.pk ≤ 65536
  by_ : 1 ≤ X.c.by_ ∧ X.c.by_ ≤ 67108864
  rise : L.Pairwise fun F G => F.time < G.time
  time : ∀ F ∈ L, X.hor < F.time ∧ 0 ≤ F.time ∧ F.time ≤ 4294967295
  parts : ∀ F ∈ L, F.parts.length ≤ 255
theorem AB.Ok.okL {X : AB} (h : X.Ok) : OkL X X.L := ⟨h.fr, h.pk, h.by_, h.rise, h.time, h.parts⟩
theorem OkL.ok {X : AB} (h : OkL X X.L) (ho : over X.c X.L = false) : X.Ok := ⟨h.fr, h.pk, h.by_, h.rise, h.time, h.parts, ho⟩
theorem OkL.tail {X : AB} {F : AF} {L : List AF} (h : OkL X (F :: L)) (pl dr ev : Int) : OkL ⟨X.c, L, F.time, pl, dr, ev⟩ L :=
  ⟨h.fr, h.pk, h.by_, (List.pairwise_cons.1 h.rise).2, fun G hG => ⟨(List.pairwise_cons.1 h.rise).1 G hG, (h.time G (by simp [hG])).2⟩, fun G hG => h.parts G (by simp [hG])⟩
theorem evict_ok {t : Int} : ∀ (L : List AF) (X : AB) (k : Int) (out : List Int), OkL X L → (evict t X k out L).1.Ok ∧ (evict t X k out L).1.c = X.c
  | [], X, k, out, h => ⟨OkL.ok (X := ⟨X.c, [], X.hor, X.pl, X.dr, X.ev⟩) ⟨h.fr, h.pk, h.by_, h.rise, h.time, h.parts⟩ (over_nil h.fr.1 h.pk.1 h.by_.1), rfl⟩
  | F :: L, X, k, out, h => by
    by_cases ho : over X.c (F :: L) = true
    · rw [evict_over ho]
      have := evict_ok (t := t) L _ (if F.time = t then 6 else k) (out ++ [F.time]) (h.tail X.pl X.dr (wr64 (X.ev + 1)))
      exact this
    · have ho' : over X.c (F :: L) = false := by simpa using ho
      rw [evict_end ho']
      exact ⟨OkL.ok (X := X.with (F :: L)) ⟨h.fr, h.pk, h.by_, h.rise, h.time, h.parts⟩ ho', rfl⟩
theorem AB.put_ok {X : AB} (ok : X.Ok) {t i c now : Int} {s : ByteArray} (ht : 0 ≤ t ∧ t ≤ 4294967295) : (X.put t i c s now).1.Ok ∧ (X.put t i c s now).1.c = X.c := by
  unfold AB.put
  split
  · exact ⟨ok, rfl⟩
  · split
    · exact ⟨ok, rfl⟩
    · rename_i h1 h2
      refine evict_ok _ X _ _ ⟨ok.fr, ok.pk, ok.by_, insPut_rise ok.rise, insPut_all ok.time ?_ fun F hF e => ?_, insPut_all ok.parts ?_ fun F hF e => ?_⟩
      · rw [put_time]; exact ⟨by show X.hor < t; omega, ht⟩
      · rw [put_time]; exact ok.time F hF
      · have := (put_len (AF.new t c now) i c s).1
        rw [this]; simp only [AF.new, List.length_replicate]; omega
      · rw [(put_len F i c s).1]; exact ok.parts F hF
theorem over_tail {c : Cfg} {F : AF} {L : List AF} (h : over c (F :: L) = false) : over c L = false := by
  have h' := of_decide_eq_false h
  refine decide_eq_false ?_
  rw [List.length_cons] at h'
  simp only [sumH, sumB] at h'
  omega
theorem playL_ok {now delay most : Int} : ∀ (L : List AF) (X : AB) (out : List (Int × ByteArray)) (gone : List Int), OkL X L → over X.c L = false → (playL now delay most X out gone L).1.Ok ∧ (playL now delay most X out gone L).1.c = X.c
  | [], X, out, gone, h, ho => ⟨OkL.ok (X := ⟨X.c, [], X.hor, X.pl, X.dr, X.ev⟩) ⟨h.fr, h.pk, h.by_, h.rise, h.time, h.parts⟩ ho, rfl⟩
  | F :: L, X, out, gone, h, ho => by
    simp only [playL]
    split
    · exact playL_ok L _ _ _ (h.tail _ _ _) (over_tail ho)
    · split
      · exact playL_ok L _ _ _ (h.tail _ _ _) (over_tail ho)
      · exact ⟨OkL.ok (X := ⟨X.c, F :: L, X.hor, X.pl, X.dr, X.ev⟩) ⟨h.fr, h.pk, h.by_, h.rise, h.time, h.parts⟩ ho, rfl⟩
theorem AB.play_ok {X : AB} (ok : X.Ok) (now delay most : Int) : (X.play now delay most).1.Ok ∧ (X.play now delay most).1.c = X.c := playL_ok X.L X [] [] ok.okL ok.over
theorem AB.new_ok (c : Cfg) : (AB.new c).Ok := by
  have h1 : 1 ≤ clipI c.fr 1024 ∧ clipI c.fr 1024 ≤ 1024 := by unfold clipI; omega
  have h2 : 1 ≤ clipI c.pk 65536 ∧ clipI c.pk 65536 ≤ 65536 := by unfold clipI; omega
  have h3 : 1 ≤ clipI c.by_ 67108864 ∧ clipI c.by_ 67108864 ≤ 67108864 := by unfold clipI; omega
  exact ⟨h1, h2, h3, by simp [AB.new], by simp [AB.new], by simp [AB.new], over_nil h1.1 h2.1 h3.1⟩
theorem AB.Ok.lim {X : AB} (ok : X.Ok) : X.L.length ≤ 1024 ∧ sumH X.L ≤ 65536 ∧ sumB X.L ≤ 67108864 := by
  have h := of_decide_eq_false ok.over
  have := ok.fr; have := ok.pk; have := ok.by_
  omega
end Go.Cd
namespace Go.Cd
open Go Go.Sl
theorem playL_out {now delay most : Int} {Q : Int → Prop} : ∀ (L : List AF) (X : AB) (out : List (Int × ByteArray)) (gone : List Int), (∀ F ∈ L, Q F.time) → (∀ x ∈ out, Q x.1) → (∀ x ∈ gone, Q x) →
    (∀ x ∈ (playL now delay most X out gone L).2.1, Q x.1) ∧ (∀ x ∈ (playL now delay most X out gone L).2.2, Q x) ∧ (playL now delay most X out gone L).2.1.length + (playL now delay most X out gone L).2.2.length ≤ out.length + gone.length + L.length
  | [], X, out, gone, _, h2, h3 => ⟨h2, h3, by simp [playL]⟩
  | F :: L, X, out, gone, h1, h2, h3 => by
    simp only [playL]
    split
    · have := playL_out (now := now) (delay := delay) (most := most) L ⟨X.c, L, F.time, wr64 (X.pl + 1), X.dr, X.ev⟩ (out ++ [(F.time, F.data)]) gone (fun G hG => h1 G (by simp [hG])) (fun x hx => by
        rcases List.mem_append.1 hx with hx | hx
        · exact h2 x hx
        · simp at hx; subst hx; exact h1 F (by simp)) h3
      simp only [List.length_append, List.length_cons, List.length_nil] at this ⊢
      exact ⟨this.1, this.2.1, by omega⟩
    · split
      · have := playL_out (now := now) (delay := delay) (most := most) L ⟨X.c, L, F.time, X.pl, wr64 (X.dr + 1), X.ev⟩ out (gone ++ [F.time]) (fun G hG => h1 G (by simp [hG])) h2 (fun x hx => by
          rcases List.mem_append.1 hx with hx | hx
          · exact h3 x hx
          · simp at hx; subst hx; exact h1 F (by simp))
        simp only [List.length_append, List.length_cons, List.length_nil] at this ⊢
        exact ⟨this.1, this.2.1, by omega⟩
      · exact ⟨h2, h3, by simp⟩
theorem evict_out {t : Int} {Q : Int → Prop} : ∀ (L : List AF) (X : AB) (k : Int) (out : List Int), (∀ F ∈ L, Q F.time) → (∀ x ∈ out, Q x) → (∀ x ∈ (evict t X k out L).2.2, Q x) ∧ (evict t X k out L).2.2.length ≤ out.length + L.length
  | [], X, k, out, _, h => ⟨h, by simp [evict]⟩
  | F :: L, X, k, out, h1, h2 => by
    by_cases ho : over X.c (F :: L) = true
    · rw [evict_over ho]
      have := evict_out (t := t) L ⟨X.c, L, F.time, X.pl, X.dr, wr64 (X.ev + 1)⟩ (if F.time = t then 6 else k) (out ++ [F.time]) (fun G hG => h1 G (by simp [hG])) (fun x hx => by
        rcases List.mem_append.1 hx with hx | hx
        · exact h2 x hx
        · simp at hx; subst hx; exact h1 F (by simp))
      simp only [List.length_append, List.length_cons, List.length_nil] at this ⊢
      exact ⟨this.1, by omega⟩
    · have ho' : over X.c (F :: L) = false := by simpa using ho
      rw [evict_end ho']
      exact ⟨h2, by simp⟩
theorem insPut_len {t i c now : Int} {s : ByteArray} : ∀ (L : List AF), (insPut t i c s now L).1.length ≤ L.length + 1
  | [] => by simp [insPut]
  | F :: L => by
    simp only [insPut]
    split
    · simp
    · split
      · simp
      · have := insPut_len (t := t) (i := i) (c := c) (now := now) (s := s) L; simp; omega
theorem AB.play_out {X : AB} (ok : X.Ok) (now delay most : Int) : (∀ x ∈ (X.play now delay most).2.1, 0 ≤ x.1 ∧ x.1 ≤ 4294967295) ∧ (∀ x ∈ (X.play now delay most).2.2, 0 ≤ x ∧ x ≤ 4294967295) ∧
    (X.play now delay most).2.1.length + (X.play now delay most).2.2.length ≤ 1024 := by
  have := playL_out (now := now) (delay := delay) (most := most) (Q := fun x => 0 ≤ x ∧ x ≤ 4294967295) X.L X [] [] (fun F hF => (ok.time F hF).2) (by simp) (by simp)
  have hl := ok.lim
  simp only [List.length_nil] at this
  exact ⟨this.1, this.2.1, by unfold AB.play; omega⟩
theorem AB.put_out {X : AB} (ok : X.Ok) {t i c now : Int} {s : ByteArray} (ht : 0 ≤ t ∧ t ≤ 4294967295) : (∀ x ∈ (X.put t i c s now).2.2, 0 ≤ x ∧ x ≤ 4294967295) ∧ (X.put t i c s now).2.2.length ≤ 1025 := by
  unfold AB.put
  split
  · exact ⟨by simp, by simp⟩
  · split
    · exact ⟨by simp, by simp⟩
    · have h := evict_out (t := t) (Q := fun x => 0 ≤ x ∧ x ≤ 4294967295) (insPut t i c s now X.L).1 X (insPut t i c s now X.L).2 [] (insPut_all (fun F hF => (ok.time F hF).2) (by rw [put_time]; exact ht) (fun F hF _ => by rw [put_time]; exact (ok.time F hF).2)) (by simp)
      have h2 := insPut_len (t := t) (i := i) (c := c) (now := now) (s := s) X.L
      have hl := ok.lim
      simp only [List.length_nil] at h
      dsimp only
      exact ⟨h.1, by omega⟩
structure BAct where
  play : Bool
  time : Int
  index : Int
  count : Int
  later : Int
  data : ByteArray
  delay : Int
  most : Int
def cutS (s : ByteArray) (n : Nat) : ByteArray := if s.size > n then s.extract 0 n else s
theorem cutS_size (s : ByteArray) (n : Nat) : (cutS s n).size ≤ n := by
  unfold cutS
  split
  · rw [ByteArray.size_extract]; omega
  · omega
def AB.act (X : AB) (a : BAct) (now : Int) : AB := if a.play = true then (X.play now a.delay a.most).1 else (X.put a.time a.index a.count (cutS a.data 30) now).1
theorem AB.act_ok {X : AB} (ok : X.Ok) {a : BAct} (ha : 0 ≤ a.time ∧ a.time ≤ 4294967295) (now : Int) : (X.act a now).Ok ∧ (X.act a now).c = X.c := by
  unfold AB.act
  split
  · exact AB.play_ok ok _ _ _
  · exact AB.put_ok ok ha
end Go.Cd
namespace Go.Proofs.Ytndanmhgbfjinaa
open Go Go.Sl Go.Cd
attribute [local irreducible] Try.prog cl ro mp mpI clT RowP FrP Big LV OV AV O Ld St Nw VB BS Cl Rd Runs OpR VJ VL RdK MSl Cv And2 Bnd binV cvV minV maxV aggO
def dPu : Dt (Int × ByteArray) 2 := Dt.of (fun x => [.int .u32 x.1, .string x.2]) (fun _ => rfl) (fun _ => rfl)
theorem dec_ne {α : Type} [DecidableEq α] {L1 L2 : List α} {i : Nat} {x y : α} (h1 : L1[i]? = some x) (h2 : L2[i]? = some y) (h : x ≠ y) : decide (L1 = L2) = false := by
  refine decide_eq_false fun e => ?_
  subst e
  rw [h1] at h2; exact h (Option.some.inj h2)
theorem take_next {α : Type} {L1 L2 : List α} {i : Nat} {x : α} (h1 : L1[i]? = some x) (h2 : L2[i]? = some x) (h : L1.take i = L2.take i) : L1.take (i + 1) = L2.take (i + 1) := by
  obtain ⟨a1, b1⟩ := List.getElem?_eq_some_iff.1 h1
  obtain ⟨a2, b2⟩ := List.getElem?_eq_some_iff.1 h2
  rw [List.take_succ_eq_append_getElem a1, List.take_succ_eq_append_getElem a2, h, b1, b2]
theorem times_law (v1 v2 : Value) (L1 L2 : List Int) (hu : ∀ x ∈ L1, 0 ≤ x ∧ x ≤ 4294967295) (hb : L2.length ≤ 1000000) : Ctr Try.prog 34 [v1, v2] [AV dU32 v1 L1, AV dI v2 L2] (fun _ : Unit => .bool (decide (L1 = L2))) (fun _ => True) (fun _ => []) := by
  refine ctr_of e34 ?_
  unfold S34
  by_cases hl : L1.length = L2.length
  · (refine sTp ?_; repeat (refine bnd fun nb => ?_; refine sTp ?_))
    refine ent_rangeD (S := Unit) L2.length (fun i _ => [.int .i64 i]) (fun i _ => L1.take i = L2.take i) (fun _ _ => [AV dU32 v1 L1, AV dI v2 L2]) () rfl rfl pKs ?_ ?_
    · intro i _ ht hi j kk ag
      (refine sTp ?_; repeat (refine bnd fun nb => ?_; refine sTp ?_))
      refine oAtP i rfl (by omega) fun x hx => ?_
      have := hu x (List.mem_of_getElem? hx)
      (refine sTp ?_; repeat (refine bnd fun nb => ?_; refine sTp ?_))
      refine oAtP (v := v2) i rfl hi fun y hy => ?_
      (refine sTp ?_; repeat (refine bnd fun nb => ?_; refine sTp ?_))
      refine oI (fun hne => ?_) fun he => ?_
      · rw [dec_ne hx hy hne]
        exact ent_ret (()) (by rfl) (by trivial) (Shift.of_picks pKs)
      · obtain rfl : x = y := by omega
        (refine sTp ?_; repeat (refine bnd fun nb => ?_; refine sTp ?_))
        exact Ent.again (ag () (take_next hx hy ht)) (by rfl) pKs
    · intro _ ht j kk
      have : L1 = L2 := by rw [← hl, List.take_length] at ht; rw [hl, List.take_length] at ht; exact ht
      rw [decide_eq_true this]
      (refine sTp ?_; repeat (refine bnd fun nb => ?_; refine sTp ?_))
      exact ent_ret (()) (by rfl) (by trivial) (Shift.of_picks pKs)
  · have : decide (L1 = L2) = false := decide_eq_false fun e => hl (by rw [e])
    rw [this]
    (refine sTp ?_; repeat (refine bnd fun nb => ?_; refine sTp ?_))
    exact ent_ret (()) (by rfl) (by trivial) (Shift.of_picks pKs)
theorem frames_law (v1 v2 : Value) (L1 L2 : List (Int × ByteArray)) (hu : ∀ x ∈ L1, 0 ≤ x.1 ∧ x.1 ≤ 4294967295) (hb : L2.length ≤ 1000000) : Ctr Try.prog 33 [v1, v2] [AV dPu v1 L1, AV dPl v2 L2] (fun _ : Unit => .bool (decide (L1 = L2))) (fun _ => True) (fun _ => []) := by
  refine ctr_of e33 ?_
  unfold S33
  by_cases hl : L1.length = L2.length
  · (refine sTp ?_; repeat (refine bnd fun nb => ?_; refine sTp ?_))
    refine ent_rangeD (S := Unit) L2.length (fun i _ => [.int .i64 i]) (fun i _ => L1.take i = L2.take i) (fun _ _ => [AV dPu v1 L1, AV dPl v2 L2]) () rfl rfl pKs ?_ ?_
    · intro i _ ht hi j kk ag
      (refine sTp ?_; repeat (refine bnd fun nb => ?_; refine sTp ?_))
      refine ent_VJ' ?_
      refine oAtFP i rfl (by omega) fun x hx => ?_
      have := hu x (List.mem_of_getElem? hx)
      (refine sTp ?_; repeat (refine bnd fun nb => ?_; refine sTp ?_))
      refine oAtFP (v := v2) i rfl hi fun y hy => ?_
      (refine sTp ?_; repeat (refine bnd fun nb => ?_; refine sTp ?_))
      refine oI (fun hne => ?_) fun he => ?_
      · rw [dec_ne hx hy (fun e => hne (by rw [e]))]
        refine ent_all fun _ => ?_
        (refine sTp ?_; repeat (refine bnd fun nb => ?_; refine sTp ?_))
        exact ent_ret (()) (by rfl) (by trivial) (Shift.of_picks pKs)
      · refine oAtFP i rfl (by omega) fun x' hx' => ?_
        rw [hx] at hx'; obtain rfl := Option.some.inj hx'
        (refine sTp ?_; repeat (refine bnd fun nb => ?_; refine sTp ?_))
        refine oAtFP (v := v2) i rfl hi fun y' hy' => ?_
        rw [hy] at hy'; obtain rfl := Option.some.inj hy'
        (refine sTp ?_; repeat (refine bnd fun nb => ?_; refine sTp ?_))
        refine ent_all fun _ => ?_
        refine oI (fun hne => ?_) fun he2 => ?_
        · rw [dec_ne hx hy (fun e => hne (by rw [e]))]
          exact ent_ret (()) (by rfl) (by trivial) (Shift.of_picks pKs)
        · obtain rfl : x = y := Prod.ext (by omega) (Classical.not_not.1 he2)
          (refine sTp ?_; repeat (refine bnd fun nb => ?_; refine sTp ?_))
          exact Ent.again (ag () (take_next hx hy ht)) (by rfl) pKs
    · intro _ ht j kk
      have : L1 = L2 := by rw [← hl, List.take_length] at ht; rw [hl, List.take_length] at ht; exact ht
      rw [decide_eq_true this]
      (refine sTp ?_; repeat (refine bnd fun nb => ?_; refine sTp ?_))
      exact ent_ret (()) (by rfl) (by trivial) (Shift.of_picks pKs)
  · have : decide (L1 = L2) = false := decide_eq_false fun e => hl (by rw [e])
    rw [this]
    (refine sTp ?_; repeat (refine bnd fun nb => ?_; refine sTp ?_))
    exact ent_ret (()) (by rfl) (by trivial) (Shift.of_picks pKs)
theorem cut_law (s : ByteArray) (n : Nat) : Ctr Try.prog 12 [.string s, .int .i64 n] [] (fun _ : Unit => .string (cutS s n)) (fun _ => True) (fun _ => []) := by
  refine ctr_of e12 ?_
  unfold S12
  unfold cutS
  by_cases h : s.size > n
  · rw [if_pos h]
    (refine sTp ?_; repeat (refine bnd fun nb => ?_; refine sTp ?_))
    refine oCutS 0 n (Nat.zero_le _) (by omega) rfl (bnd_i (by omega) (by omega)) ?_
    exact ent_ret (()) (by rfl) (by trivial) (Shift.of_picks pKs)
  · rw [if_neg h]
    (refine sTp ?_; repeat (refine bnd fun nb => ?_; refine sTp ?_))
    exact ent_ret (()) (by rfl) (by trivial) (Shift.of_picks pKs)
end Go.Proofs.Ytndanmhgbfjinaa
namespace Go.Proofs.Ytndanmhgbfjinaa
open Go Go.Sl Go.Cd
attribute [local irreducible] Try.prog cl ro mp mpI clT RowP FrP Big LV OV AV O Ld St Nw VB BS Cl Rd Runs OpR VJ VL RdK MSl Cv And2 Bnd binV cvV minV maxV aggO
attribute [local irreducible] BufP
theorem pl_ov {v : Value} {xs : List (Int × ByteArray)} {l R : List Asn} (p : Pick l (Rw plE v xs) R) : Pick l (OV dPu v xs) R := Pick.ofRw (f := plE) (h1 := fun _ => rfl) (h2 := fun _ => rfl) p
theorem u32_ov {v : Value} {xs : List Int} {l R : List Asn} (p : Pick l (Rw u32E v xs) R) : Pick l (OV dU32 v xs) R := Pick.ofRw (f := u32E) (h1 := fun _ => rfl) (h2 := fun _ => rfl) p
theorem Ent.pick {φ A : Asn} {l R : List Asn} (p : Pick l A R) (e : Ent (A :: R) φ) : Ent l φ := fun h s => e h (p h s)
def actC (a : BAct) : List Value := [.bool a.play, .int .u32 a.time, .int .i64 a.index, .int .i64 a.count, .int .i64 a.later, .string a.data, .int .i64 a.delay, .int .i64 a.most]
theorem do_law (b : Nat) (X : AB) (cs : List Value) (ok : X.Ok) (a : BAct) (ha : 0 ≤ a.time ∧ a.time ≤ 4294967295) (now : Int) :
    Ctr Try.prog 18 [pt b, aggV cs, .agg (actC a).toArray, .int .i64 now] [BufP b X, dB.rep X cs] (fun r : List Value => .tuple #[aggV r, .bool true]) (fun _ => True) (fun r => [BufP b (X.act a now), dB.rep (X.act a now) r]) := by
  refine ctr_of e18 ?_
  unfold S18
  have hl := ok.lim
  have hp : ∀ F ∈ X.L, F.parts.length ≤ 255 := ok.parts
  refine Ent.pick (A := dB.rep X cs) (Pick.there Pick.here) ?_
  refine dB.opn fun a0 c0 e => ?_
  subst e
  unfold actC bC
  (refine sTp ?_; repeat (refine bnd fun nb => ?_; refine sTp ?_))
  refine ent_VB (b := a.play) (fun hb => ?_) fun hb => ?_
  · have e : X.act a now = (X.play now a.delay a.most).1 := by unfold AB.act; rw [if_pos hb]
    have ho := AB.play_out ok now a.delay a.most
    rw [e]
    (refine sTp ?_; repeat (refine bnd fun nb => ?_; refine sTp ?_))
    refine Ctr.use (bplay_ref X _ (by omega) hp (by omega) now a.delay a.most) pKs fun x _ => ?_
    obtain ⟨r, v1, v2⟩ := x
    (try dsimp only [List.cons_append, List.nil_append, List.append])
    refine dB.opn fun a1 c1 e => ?_
    subst e
    unfold bC
    (refine sTp ?_; repeat (refine bnd fun nb => ?_; refine sTp ?_))
    refine Ctr.use (bplay_fn b X (by omega) (by omega) (by omega) (fun H hH => ⟨hp H hH, (ok.time H hH).2⟩) now a.delay a.most) pKs fun x _ => ?_
    obtain ⟨w1, w2⟩ := x
    (try dsimp only [List.cons_append, List.nil_append, List.append])
    refine Ent.pick (pl_ov wHs) ?_
    refine Ent.pick (u32_ov wHs) ?_
    (refine sTp ?_; repeat (refine bnd fun nb => ?_; refine sTp ?_))
    refine Ctr.use (frames_law w1 v1 _ (X.play now a.delay a.most).2.1 ho.1 (by omega)) pKs fun _ _ => ?_
    rw [decide_eq_true (by rfl)]
    (refine sTp ?_; repeat (refine bnd fun nb => ?_; refine sTp ?_))
    refine Ctr.use (times_law w2 v2 _ (X.play now a.delay a.most).2.2 ho.2.1 (by omega)) pKs fun _ _ => ?_
    rw [decide_eq_true (by rfl)]
    (refine sTp ?_; repeat (refine bnd fun nb => ?_; refine sTp ?_))
    exact ent_ret (_) (by rfl) (by trivial) (Shift.of_picks pKs)
  · have e : X.act a now = (X.put a.time a.index a.count (cutS a.data 30) now).1 := by unfold AB.act; rw [if_neg (by simp [hb])]
    have ho := AB.put_out ok (i := a.index) (c := a.count) (now := now) (s := cutS a.data 30) ha
    have hc := cutS_size a.data 30
    rw [e]
    (refine sTp ?_; repeat (refine bnd fun nb => ?_; refine sTp ?_))
    refine Ctr.use (cut_law a.data 30) pKs fun _ _ => ?_
    (refine sTp ?_; repeat (refine bnd fun nb => ?_; refine sTp ?_))
    refine Ctr.use (bput_ref X _ ok a.time a.index a.count now (cutS a.data 30) (by omega)) pKs fun x _ => ?_
    obtain ⟨r, v1⟩ := x
    (try dsimp only [List.cons_append, List.nil_append, List.append])
    refine dB.opn fun a1 c1 e => ?_
    subst e
    unfold bC
    (refine sTp ?_; repeat (refine bnd fun nb => ?_; refine sTp ?_))
    refine Ctr.use (bput_fn b X ok a.time a.index a.count now (cutS a.data 30) ha (by omega)) pKs fun w1 _ => ?_
    (try dsimp only [List.cons_append, List.nil_append, List.append])
    refine Ent.pick (u32_ov wHs) ?_
    refine oSlD w1 fun a5 c5 e5 => ?_
    subst e5
    (refine sTp ?_; repeat (refine bnd fun nb => ?_; refine sTp ?_))
    refine Ctr.use (times_law _ v1 _ (X.put a.time a.index a.count (cutS a.data 30) now).2.2 ho.1 (by omega)) pKs fun _ _ => ?_
    rw [decide_eq_true (by rfl)]
    (refine sTp ?_; repeat (refine bnd fun nb => ?_; refine sTp ?_))
    exact ent_ret (_) (by rfl) (by trivial) (Shift.of_picks pKs)
end Go.Proofs.Ytndanmhgbfjinaa
namespace Go.Proofs.Ytndanmhgbfjinaa
open Go Go.Sl Go.Cd
attribute [local irreducible] Try.prog cl ro mp mpI clT RowP FrP Big LV OV AV O Ld St Nw VB BS Cl Rd Runs OpR VJ VL RdK MSl Cv And2 Bnd binV cvV minV maxV aggO
attribute [local irreducible] BufP
theorem is_law (b : Nat) (X : AB) (cs : List Value) (ok : X.Ok) : Ctr Try.prog 19 [pt b, aggV cs] [BufP b X, dB.rep X cs] (fun _ : Unit => .bool true) (fun _ => True) (fun _ => [BufP b X]) := by
  refine ctr_of e19 ?_
  unfold S19
  have hl := ok.lim
  have hp : ∀ F ∈ X.L, F.parts.length ≤ 255 := ok.parts
  refine Ent.pick (A := dB.rep X cs) (Pick.there Pick.here) ?_
  refine dB.opn fun a0 c0 e => ?_
  subst e
  unfold bC
  refine oN fun b1 => ?_
  (refine sTp ?_; repeat (refine bnd fun nb => ?_; refine sTp ?_))
  refine oNilD dI ?_
  refine ent_rangeD (S := Value) X.L.length (fun i v => [v, .int .i64 i]) (fun _ _ => True) (fun i v => [OV dI v ((X.L.take i).map AF.time), BufP b X, LV dF (.slice a0 X.L.length c0) X.L, cl b1 (bC X a0 c0), dB.rep X (bC X a0 c0)]) _ rfl trivial pKs ?_ ?_
  · intro i v _ hi j kk ag
    (refine sTp ?_; repeat (refine bnd fun nb => ?_; refine sTp ?_))
    refine oAtD i rfl hi fun F fs hF => ?_
    refine dF.opn fun a1 c1 a2 c2 e => ?_
    subst e
    (refine sTp ?_; repeat (refine bnd fun nb => ?_; refine sTp ?_))
    refine oBS nMs fun nb => ?_
    refine oPushD (s := v) (D := dI) rfl rfl rfl (by decide) F.time (fun h s => rfl) (by rw [List.length_map, List.length_take]; omega) fun v2 => ?_
    (refine sTp ?_; repeat (refine bnd fun nb => ?_; refine sTp ?_))
    rw [map_take hF] at ag
    exact Ent.again (ag v2 trivial) (by rfl) pKs
  · intro v _ j kk
    rw [List.take_length]
    have hu : ∀ x ∈ X.L.map AF.time, 0 ≤ x ∧ x ≤ 4294967295 := fun x hx => by
      obtain ⟨F, hF, rfl⟩ := List.mem_map.1 hx; exact (ok.time F hF).2
    unfold bC
    (refine sTp ?_; repeat (refine bnd fun nb => ?_; refine sTp ?_))
    refine Ctr.use (sizes_ref X _ (by omega) hp (by omega) (by omega)) pKs fun _ _ => ?_
    (refine sTp ?_; repeat (refine bnd fun nb => ?_; refine sTp ?_))
    (refine Ctr.use (counts_fn b X) pKs fun _ _ => ?_; (try dsimp only [List.cons_append, List.nil_append, List.append]))
    (refine sTp ?_; repeat (refine bnd fun nb => ?_; refine sTp ?_))
    refine Ctr.use (times_fn b X (by omega)) pKs fun w _ => ?_
    (try dsimp only [List.cons_append, List.nil_append, List.append])
    refine Ent.pick (u32_ov wHs) ?_
    refine oSlD v fun a5 c5 e5 => ?_
    subst e5
    refine Ctr.use (times_law w _ _ (X.L.map AF.time) hu (by rw [List.length_map]; omega)) pKs fun _ _ => ?_
    rw [decide_eq_true (by rfl), List.length_map]
    (refine sTp ?_; repeat (refine bnd fun nb => ?_; refine sTp ?_))
    (refine Ctr.use (len_fn b X) pKs fun _ _ => ?_; (try dsimp only [List.cons_append, List.nil_append, List.append]))
    (refine sTp ?_; repeat (refine bnd fun nb => ?_; refine sTp ?_))
    (refine Ctr.use (packets_fn b X) pKs fun _ _ => ?_; (try dsimp only [List.cons_append, List.nil_append, List.append]))
    (refine sTp ?_; repeat (refine bnd fun nb => ?_; refine sTp ?_))
    (refine Ctr.use (bbytes_fn b X) pKs fun _ _ => ?_; (try dsimp only [List.cons_append, List.nil_append, List.append]))
    (refine sTp ?_; repeat (refine bnd fun nb => ?_; refine sTp ?_))
    (refine Ctr.use (horizon_fn b X) pKs fun _ _ => ?_; (try dsimp only [List.cons_append, List.nil_append, List.append]))
    (refine sTp ?_; repeat (refine bnd fun nb => ?_; refine sTp ?_))
    exact ent_ret (()) (by rfl) (by trivial) (Shift.of_picks pKs)
def x120 : ByteArray := ⟨#[120]⟩
theorem awake_law : Ctr Try.prog 7 [] [] (fun _ : Unit => .bool true) (fun _ => True) (fun _ => []) := by
  refine ctr_of e7 ?_
  unfold S7
  let X0 : AB := AB.new ⟨2, 9, 99⟩
  let X1 : AB := ⟨⟨2, 9, 99⟩, [⟨7, 0, [some x120]⟩], -1, 0, 0, 0⟩
  let X2 : AB := ⟨⟨2, 9, 99⟩, [], 7, 1, 0, 0⟩
  have h1 : X0.put 7 0 1 x120 0 = (X1, 2, []) := by rfl
  have h2 : X1.play 4 5 9 = (X1, [], []) := by rfl
  have h3 : X1.play 5 5 9 = (X2, [(7, x120)], []) := by rfl
  have k0 : X0.Ok := AB.new_ok _
  have k1 : X1.Ok := by have := (AB.put_ok k0 (t := 7) (i := 0) (c := 1) (now := 0) (s := x120) (by decide)).1; rw [h1] at this; exact this
  have l1 := k1.lim
  (refine sTp ?_; repeat (refine bnd fun nb => ?_; refine sTp ?_))
  refine Ctr.use (bnew_fn ⟨2, 9, 99⟩) pKs fun b _ => ?_
  (refine sTp ?_; repeat (refine bnd fun nb => ?_; refine sTp ?_))
  refine Ctr.use (bput_fn b X0 k0 7 0 1 0 x120 (by decide) (by decide)) pKs fun w _ => ?_
  rw [h1]
  (try dsimp only [List.cons_append, List.nil_append, List.append])
  refine Ent.pick (u32_ov wHs) ?_
  refine oSlD w fun a5 c5 e5 => ?_
  subst e5
  (refine sTp ?_; repeat (refine bnd fun nb => ?_; refine sTp ?_))
  have q := fun now delay most => bplay_fn b X1 (by omega) (by omega) (by omega) (fun H hH => ⟨k1.parts H hH, (k1.time H hH).2⟩) now delay most
  refine Ctr.use (q 4 5 9) pKs fun x _ => ?_
  obtain ⟨w1, w2⟩ := x
  rw [h2]
  (try dsimp only [List.cons_append, List.nil_append, List.append])
  refine Ent.pick (pl_ov wHs) ?_
  (refine sTp ?_; repeat (refine bnd fun nb => ?_; refine sTp ?_))
  refine Ctr.use (q 5 5 9) pKs fun x _ => ?_
  obtain ⟨w3, w4⟩ := x
  rw [h3]
  (try dsimp only [List.cons_append, List.nil_append, List.append])
  refine Ent.pick (pl_ov (v := w3) wHs) ?_
  (refine sTp ?_; repeat (refine bnd fun nb => ?_; refine sTp ?_))
  refine oAtP (v := w3) (xs := [(7, x120)]) 0 rfl (by decide) fun y hy => ?_
  obtain rfl : y = (7, x120) := by simpa using hy.symm
  (refine sTp ?_; repeat (refine bnd fun nb => ?_; refine sTp ?_))
  refine oEqG (r := ((7 : Int) == 7) && (decide (x120 = ⟨#[120]⟩) && true)) (by kernel_rfl) (by kernel_rfl) ?_
  rw [show (((7 : Int) == 7) && (decide (x120 = ⟨#[120]⟩) && true)) = true from rfl]
  (refine sTp ?_; repeat (refine bnd fun nb => ?_; refine sTp ?_))
  (refine Ctr.use (horizon_fn b X2) pKs fun _ _ => ?_; (try dsimp only [List.cons_append, List.nil_append, List.append]))
  (refine sTp ?_; repeat (refine bnd fun nb => ?_; refine sTp ?_))
  exact ent_ret (()) (by rfl) (by trivial) (Shift.of_picks pKs)
end Go.Proofs.Ytndanmhgbfjinaa
namespace Go.Proofs.Ytndanmhgbfjinaa
open Go Go.Sl Go.Cd
attribute [local irreducible] Try.prog cl ro mp mpI clT RowP FrP Big LV OV AV O Ld St Nw VB BS Cl Rd Runs OpR VJ VL RdK MSl Cv And2 Bnd binV cvV minV maxV aggO
attribute [local irreducible] BufP
def dAct : Dt BAct 8 := Dt.of actC (fun _ => rfl) (fun _ => rfl)
def cfgC (c : Cfg) : List Value := [.int .i64 c.fr, .int .i64 c.pk, .int .i64 c.by_]
set_option maxHeartbeats 4000000 in
theorem plays_law (c : Cfg) (v : Value) (acts : List BAct) (ha : ∀ a ∈ acts, 0 ≤ a.time ∧ a.time ≤ 4294967295) :
    Ctr Try.prog 5 [.agg (cfgC c).toArray, v] [LV dAct v acts] (fun _ : Unit => .bool true) (fun _ => True) (fun _ => []) := by
  refine ctr_of e5 ?_
  unfold S5 cfgC
  refine oN fun b1 => ?_
  (refine Ctr.use (awake_law) pKs fun _ _ => ?_; (try dsimp only [List.cons_append, List.nil_append, List.append]))
  (refine sTp ?_; repeat (refine bnd fun nb => ?_; refine sTp ?_))
  refine Ctr.use (bnew_fn c) pKs fun b _ => ?_
  (refine sTp ?_; repeat (refine bnd fun nb => ?_; refine sTp ?_))
  refine Ctr.use (bnew_ref c) pKs fun cs _ => ?_
  (try dsimp only [List.cons_append, List.nil_append, List.append])
  refine dB.opn fun a0 c0 e => ?_
  subst e
  unfold bC
  refine oN fun b2 => ?_
  (refine sTp ?_; repeat (refine bnd fun nb => ?_; refine sTp ?_))
  refine ent_VJ' ?_
  (refine sTp ?_; repeat (refine bnd fun nb => ?_; refine sTp ?_))
  refine Ctr.use (Clip_fn c) pKs fun _ _ => ?_
  (refine sTp ?_; repeat (refine bnd fun nb => ?_; refine sTp ?_))
  refine Ctr.use (clip_ref c) pKs fun _ _ => ?_
  (try dsimp only [List.cons_append, List.nil_append, List.append])
  refine oNeG (r := ((c.clip.fr == c.clip.fr) && ((c.clip.pk == c.clip.pk) && ((c.clip.by_ == c.clip.by_) && true)))) (by kernel_rfl) (by kernel_rfl) ?_
  rw [show ((c.clip.fr == c.clip.fr) && ((c.clip.pk == c.clip.pk) && ((c.clip.by_ == c.clip.by_) && true))) = true by simp]
  refine ent_all fun _ => ?_
  (refine sTp ?_; repeat (refine bnd fun nb => ?_; refine sTp ?_))
  refine ent_loopD (S := Nat × Int × AB × Option Addr × Nat) (fun s => [.int .i64 s.2.1, .int .i64 s.1]) (fun s => s.2.2.1.Ok ∧ s.1 ≤ 40) (fun s => 40 - s.1)
    (fun s => [BufP b s.2.2.1, cl b2 (bC s.2.2.1 s.2.2.2.1 s.2.2.2.2), LV dF (.slice s.2.2.2.1 s.2.2.1.L.length s.2.2.2.2) s.2.2.1.L, LV dAct v acts]) (0, 0, AB.new c, a0, c0) rfl ⟨AB.new_ok c, Nat.zero_le _⟩ pKs ?_
  rintro ⟨i, now, X, a, c9⟩ ⟨ok, hi⟩ j kk ag
  dsimp only at ok hi ⊢
  unfold bC
  refine ent_VJ' ?_
  by_cases h : i < acts.length ∧ i < 40
  · obtain ⟨h1, h2⟩ := h
    (refine sTp ?_; repeat (refine bnd fun nb => ?_; refine sTp ?_))
    refine ent_all fun _ => ?_
    (refine sTp ?_; repeat (refine bnd fun nb => ?_; refine sTp ?_))
    refine oAtFP i rfl h1 fun y hy => ?_
    (refine sTp ?_; repeat (refine bnd fun nb => ?_; refine sTp ?_))
    refine oAtP i rfl h1 fun y' hy' => ?_
    rw [hy] at hy'; obtain rfl := Option.some.inj hy'
    (refine sTp ?_; repeat (refine bnd fun nb => ?_; refine sTp ?_))
    have hy2 := ha y (List.mem_of_getElem? hy)
    refine Ent.add (A := dB.rep X (bC X a c9)) (fun h s => dB.close (by revert h s; exact hAs)) ?_
    generalize IntKind.i64.wrap (now + _) = now2
    refine Ctr.use (do_law b X _ ok y hy2 now2) pKs fun r _ => ?_
    (try dsimp only [List.cons_append, List.nil_append, List.append])
    have ok' := (AB.act_ok ok hy2 now2).1
    generalize X.act y now2 = X' at ok' ⊢
    have hov := of_decide_eq_false ok'.over
    refine Ent.pick (A := dB.rep _ r) wHs ?_
    refine dB.opn fun a1 c1 e => ?_
    subst e
    unfold bC
    (refine sTp ?_; repeat (refine bnd fun nb => ?_; refine sTp ?_))
    refine ent_VJ' ?_
    (refine sTp ?_; repeat (refine bnd fun nb => ?_; refine sTp ?_))
    refine Ctr.use (is_law b X' _ ok') pKs fun _ _ => ?_
    (refine sTp ?_; repeat (refine bnd fun nb => ?_; refine sTp ?_))
    (refine Ctr.use (len_fn b X') pKs fun _ _ => ?_; (try dsimp only [List.cons_append, List.nil_append, List.append]))
    (refine sTp ?_; repeat (refine bnd fun nb => ?_; refine sTp ?_))
    (refine Ctr.use (packets_fn b X') pKs fun _ _ => ?_; (try dsimp only [List.cons_append, List.nil_append, List.append]))
    (refine sTp ?_; repeat (refine bnd fun nb => ?_; refine sTp ?_))
    (refine Ctr.use (bbytes_fn b X') pKs fun _ _ => ?_; (try dsimp only [List.cons_append, List.nil_append, List.append]))
    (refine sTp ?_; repeat (refine bnd fun nb => ?_; refine sTp ?_))
    refine ent_all fun _ => ?_
    (refine sTp ?_; repeat (refine bnd fun nb => ?_; refine sTp ?_))
    exact Ent.again (ag (i + 1, now2, X', a1, c1) ⟨ok', h2⟩ (by dsimp only; omega)) (by rfl) pKs
  · by_cases h1 : i < acts.length
    · have h2 : ¬ i < 40 := fun h2 => h ⟨h1, h2⟩
      (refine sTp ?_; repeat (refine bnd fun nb => ?_; refine sTp ?_))
      refine ent_all fun _ => ?_
      (refine sTp ?_; repeat (refine bnd fun nb => ?_; refine sTp ?_))
      exact ent_ret (()) (by rfl) (by trivial) (Shift.of_picks pKs)
    · (refine sTp ?_; repeat (refine bnd fun nb => ?_; refine sTp ?_))
      refine ent_all fun _ => ?_
      (refine sTp ?_; repeat (refine bnd fun nb => ?_; refine sTp ?_))
      exact ent_ret (()) (by rfl) (by trivial) (Shift.of_picks pKs)
end Go.Proofs.Ytndanmhgbfjinaa
namespace Go.Proofs.Ytndanmhgbfjinaa
open Go Go.Sl Go.Cd
attribute [local irreducible] Try.prog cl ro mp mpI clT RowP FrP Big LV OV AV O Ld St Nw VB BS Cl Rd Runs OpR VJ VL RdK MSl Cv And2 Bnd binV cvV minV maxV aggO
attribute [local irreducible] BufP
set_option maxHeartbeats 4000000 in
theorem clones_law (v w : Value) (acts more : List BAct) (ha : ∀ a ∈ acts, 0 ≤ a.time ∧ a.time ≤ 4294967295) (hm : ∀ a ∈ more, 0 ≤ a.time ∧ a.time ≤ 4294967295) :
    Ctr Try.prog 6 [v, w] [LV dAct v acts, LV dAct w more] (fun _ : Unit => .bool true) (fun _ => True) (fun _ => []) := by
  refine ctr_of e6 ?_
  unfold S6
  (refine Ctr.use (awake_law) pKs fun _ _ => ?_; (try dsimp only [List.cons_append, List.nil_append, List.append]))
  (refine sTp ?_; repeat (refine bnd fun nb => ?_; refine sTp ?_))
  refine Ctr.use (bnew_fn ⟨4, 8, 40⟩) pKs fun b _ => ?_
  (refine sTp ?_; repeat (refine bnd fun nb => ?_; refine sTp ?_))
  refine Ctr.use (bnew_ref ⟨4, 8, 40⟩) pKs fun cs _ => ?_
  (try dsimp only [List.cons_append, List.nil_append, List.append])
  refine dB.opn fun a0 c0 e => ?_
  subst e
  unfold bC
  refine oN fun b2 => ?_
  (refine sTp ?_; repeat (refine bnd fun nb => ?_; refine sTp ?_))
  refine ent_loopD (S := Nat × Int × AB × Option Addr × Nat) (fun s => [.int .i64 s.2.1, .int .i64 s.1]) (fun s => s.2.2.1.Ok ∧ s.1 ≤ 20) (fun s => 20 - s.1)
    (fun s => [BufP b s.2.2.1, cl b2 (bC s.2.2.1 s.2.2.2.1 s.2.2.2.2), LV dF (.slice s.2.2.2.1 s.2.2.1.L.length s.2.2.2.2) s.2.2.1.L, LV dAct v acts, LV dAct w more]) (0, 0, AB.new ⟨4, 8, 40⟩, a0, c0) rfl ⟨AB.new_ok _, Nat.zero_le _⟩ pKs ?_
  rintro ⟨i, now, X, a, c9⟩ ⟨ok, hi⟩ j kk ag
  dsimp only at ok hi ⊢
  unfold bC
  by_cases h : i < acts.length ∧ i < 20
  · obtain ⟨h1, h2⟩ := h
    refine ent_VJ' ?_
    (refine sTp ?_; repeat (refine bnd fun nb => ?_; refine sTp ?_))
    refine ent_all fun _ => ?_
    (refine sTp ?_; repeat (refine bnd fun nb => ?_; refine sTp ?_))
    refine oAtFP i rfl h1 fun y hy => ?_
    (refine sTp ?_; repeat (refine bnd fun nb => ?_; refine sTp ?_))
    refine oAtP i rfl h1 fun y' hy' => ?_
    rw [hy] at hy'; obtain rfl := Option.some.inj hy'
    (refine sTp ?_; repeat (refine bnd fun nb => ?_; refine sTp ?_))
    have hy2 := ha y (List.mem_of_getElem? hy)
    refine Ent.add (A := dB.rep X (bC X a c9)) (fun h s => dB.close (by revert h s; exact hAs)) ?_
    generalize IntKind.i64.wrap (now + _) = now2
    refine Ctr.use (do_law b X _ ok y hy2 now2) pKs fun r _ => ?_
    (try dsimp only [List.cons_append, List.nil_append, List.append])
    have ok' := (AB.act_ok ok hy2 now2).1
    generalize X.act y now2 = X' at ok' ⊢
    refine Ent.pick (A := dB.rep _ r) wHs ?_
    refine dB.opn fun a1 c1 e => ?_
    subst e
    unfold bC
    (refine sTp ?_; repeat (refine bnd fun nb => ?_; refine sTp ?_))
    exact Ent.again (ag (i + 1, now2, X', a1, c1) ⟨ok', h2⟩ (by dsimp only; omega)) (by rfl) pKs
  have hd : ∃ fin : Bool, fin = false := ⟨false, rfl⟩
  refine ent_VJ (X := Unit) (fun _ => [.bool false]) (fun _ => True) (fun _ => [BufP b X, cl b2 (bC X a c9), LV dF (.slice a X.L.length c9) X.L, LV dAct w more]) ?_ ?_
  · by_cases h1 : i < acts.length
    · have h2 : ¬ i < 20 := fun h2 => h ⟨h1, h2⟩
      (refine sTp ?_; repeat (refine bnd fun nb => ?_; refine sTp ?_))
      exact ent_join () (by rfl) trivial pKs
    · (refine sTp ?_; repeat (refine bnd fun nb => ?_; refine sTp ?_))
      exact ent_join () (by rfl) trivial pKs
  intro _ _ j2
  unfold bC
  have hl := ok.lim
  (refine sTp ?_; repeat (refine bnd fun nb => ?_; refine sTp ?_))
  refine Ctr.use (bclone_fn b X (by omega)) pKs fun d _ => ?_
  (try dsimp only [List.cons_append, List.nil_append, List.append])
  (refine sTp ?_; repeat (refine bnd fun nb => ?_; refine sTp ?_))
  refine ent_loopD (S := Nat × Int × AB × Option Addr × Nat) (fun s => [.int .i64 s.2.1, .int .i64 s.1]) (fun s => s.2.2.1.Ok ∧ s.1 ≤ 20) (fun s => 20 - s.1)
    (fun s => [BufP d s.2.2.1, cl nb (bC s.2.2.1 s.2.2.2.1 s.2.2.2.2), LV dF (.slice s.2.2.2.1 s.2.2.1.L.length s.2.2.2.2) s.2.2.1.L, LV dAct w more, BufP b X, cl b2 (bC X a c9), LV dF (.slice a X.L.length c9) X.L]) (0, now, X, a, c9) rfl ⟨ok, Nat.zero_le _⟩ pKs ?_
  rintro ⟨i', now', Y, a', c'⟩ ⟨okY, hi'⟩ j' kk' ag'
  dsimp only at okY hi' ⊢
  unfold bC
  by_cases h : i' < more.length ∧ i' < 20
  · obtain ⟨h1, h2⟩ := h
    refine ent_VJ' ?_
    (refine sTp ?_; repeat (refine bnd fun nb => ?_; refine sTp ?_))
    refine ent_all fun _ => ?_
    (refine sTp ?_; repeat (refine bnd fun nb => ?_; refine sTp ?_))
    refine oAtFP i' rfl h1 fun y hy => ?_
    (refine sTp ?_; repeat (refine bnd fun nb => ?_; refine sTp ?_))
    refine oAtP i' rfl h1 fun y' hy' => ?_
    rw [hy] at hy'; obtain rfl := Option.some.inj hy'
    (refine sTp ?_; repeat (refine bnd fun nb => ?_; refine sTp ?_))
    have hy2 := hm y (List.mem_of_getElem? hy)
    refine Ent.add (A := dB.rep Y (bC Y a' c')) (fun h s => dB.close (by revert h s; exact hAs)) ?_
    generalize IntKind.i64.wrap (now' + _) = now2
    refine Ctr.use (do_law d Y _ okY y hy2 now2) pKs fun r _ => ?_
    (try dsimp only [List.cons_append, List.nil_append, List.append])
    have ok' := (AB.act_ok okY hy2 now2).1
    generalize Y.act y now2 = Y' at ok' ⊢
    refine Ent.pick (A := dB.rep _ r) wHs ?_
    refine dB.opn fun a1 c1 e => ?_
    subst e
    unfold bC
    (refine sTp ?_; repeat (refine bnd fun nb => ?_; refine sTp ?_))
    exact Ent.again (ag' (i' + 1, now2, Y', a1, c1) ⟨ok', h2⟩ (by dsimp only; omega)) (by rfl) pKs
  refine Ent.add (A := dB.rep X (bC X a c9)) (fun h s => dB.close (by revert h s; exact hAs)) ?_
  refine Ent.add (A := dB.rep Y (bC Y a' c')) (fun h s => dB.close (by revert h s; exact hAs)) ?_
  refine ent_VJ' ?_
  by_cases h1 : i' < more.length
  · have h2 : ¬ i' < 20 := fun h2 => h ⟨h1, h2⟩
    (refine sTp ?_; repeat (refine bnd fun nb => ?_; refine sTp ?_))
    refine ent_all fun _ => ?_
    (refine sTp ?_; repeat (refine bnd fun nb => ?_; refine sTp ?_))
    refine Ctr.use (is_law b X _ ok) pKs fun _ _ => ?_
    (refine sTp ?_; repeat (refine bnd fun nb => ?_; refine sTp ?_))
    refine Ctr.use (is_law d Y _ okY) pKs fun _ _ => ?_
    exact ent_ret (()) (by rfl) (by trivial) (Shift.of_picks pKs)
  · (refine sTp ?_; repeat (refine bnd fun nb => ?_; refine sTp ?_))
    refine ent_all fun _ => ?_
    (refine sTp ?_; repeat (refine bnd fun nb => ?_; refine sTp ?_))
    refine Ctr.use (is_law b X _ ok) pKs fun _ _ => ?_
    (refine sTp ?_; repeat (refine bnd fun nb => ?_; refine sTp ?_))
    refine Ctr.use (is_law d Y _ okY) pKs fun _ _ => ?_
    exact ent_ret (()) (by rfl) (by trivial) (Shift.of_picks pKs)
end Go.Proofs.Ytndanmhgbfjinaa
namespace Go.Cd
open Go Go.Sl
theorem playL_rise {now delay most : Int} : ∀ (L : List AF) (X : AB) (out : List (Int × ByteArray)) (gone : List Int), OkL X L →
    ∃ o : List (Int × ByteArray), ∃ g : List Int, (playL now delay most X out gone L).2.1 = out ++ o ∧ (playL now delay most X out gone L).2.2 = gone ++ g ∧ o.Pairwise (fun x y => x.1 < y.1) ∧ g.Pairwise (· < ·) ∧
      (∀ x ∈ o, X.hor < x.1 ∧ x.1 ≤ (playL now delay most X out gone L).1.hor) ∧ (∀ x ∈ g, X.hor < x ∧ x ≤ (playL now delay most X out gone L).1.hor) ∧ (∀ x ∈ o, x.1 ∉ g) ∧ X.hor ≤ (playL now delay most X out gone L).1.hor
  | [], X, out, gone, _ => ⟨[], [], by simp [playL], by simp [playL], by simp, by simp, by simp, by simp, by simp, by simp [playL]⟩
  | F :: L, X, out, gone, h => by
    have hF := (h.time F (by simp)).1
    simp only [playL]
    split
    · obtain ⟨o, g, e1, e2, p1, p2, p3, p4, p5, p6⟩ := playL_rise (now := now) (delay := delay) (most := most) L ⟨X.c, L, F.time, wr64 (X.pl + 1), X.dr, X.ev⟩ (out ++ [(F.time, F.data)]) gone (h.tail _ _ _)
      dsimp only at p3 p4 p6
      refine ⟨(F.time, F.data) :: o, g, by rw [e1]; simp, e2, List.pairwise_cons.2 ⟨fun x hx => (p3 x hx).1, p1⟩, p2, fun x hx => ?_, fun x hx => ?_, fun x hx => ?_, by omega⟩
      · rcases List.mem_cons.1 hx with rfl | hx
        · exact ⟨hF, p6⟩
        · have := p3 x hx; omega
      · have := p4 x hx; omega
      · rcases List.mem_cons.1 hx with rfl | hx
        · intro hg; have := p4 _ hg; dsimp only at this; omega
        · exact p5 x hx
    · split
      · obtain ⟨o, g, e1, e2, p1, p2, p3, p4, p5, p6⟩ := playL_rise (now := now) (delay := delay) (most := most) L ⟨X.c, L, F.time, X.pl, wr64 (X.dr + 1), X.ev⟩ out (gone ++ [F.time]) (h.tail _ _ _)
        dsimp only at p3 p4 p6
        refine ⟨o, F.time :: g, e1, by rw [e2]; simp, p1, List.pairwise_cons.2 ⟨fun x hx => (p4 x hx).1, p2⟩, fun x hx => ?_, fun x hx => ?_, fun x hx => ?_, by omega⟩
        · have := p3 x hx; omega
        · rcases List.mem_cons.1 hx with rfl | hx
          · exact ⟨hF, p6⟩
          · have := p4 x hx; omega
        · intro hg
          rcases List.mem_cons.1 hg with e | hg
          · have := p3 x hx; omega
          · exact p5 x hx hg
      · exact ⟨[], [], by simp, by simp, by simp, by simp, by simp, by simp, by simp, Int.le_refl _⟩
theorem evict_rise {t : Int} : ∀ (L : List AF) (X : AB) (k : Int) (out : List Int), OkL X L →
    ∃ g : List Int, (evict t X k out L).2.2 = out ++ g ∧ g.Pairwise (· < ·) ∧ (∀ x ∈ g, X.hor < x ∧ x ≤ (evict t X k out L).1.hor) ∧ X.hor ≤ (evict t X k out L).1.hor
  | [], X, k, out, _ => ⟨[], by simp [evict], by simp, by simp, by simp [evict]⟩
  | F :: L, X, k, out, h => by
    have hF := (h.time F (by simp)).1
    by_cases ho : over X.c (F :: L) = true
    · rw [evict_over ho]
      obtain ⟨g, e1, p1, p2, p3⟩ := evict_rise (t := t) L ⟨X.c, L, F.time, X.pl, X.dr, wr64 (X.ev + 1)⟩ (if F.time = t then 6 else k) (out ++ [F.time]) (h.tail _ _ _)
      dsimp only at p2 p3
      refine ⟨F.time :: g, by rw [e1]; simp, List.pairwise_cons.2 ⟨fun x hx => (p2 x hx).1, p1⟩, fun x hx => ?_, by omega⟩
      rcases List.mem_cons.1 hx with rfl | hx
      · exact ⟨hF, p3⟩
      · have := p2 x hx; omega
    · have ho' : over X.c (F :: L) = false := by simpa using ho
      rw [evict_end ho']
      exact ⟨[], by simp, by simp, by simp, Int.le_refl _⟩
theorem AB.play_rise {X : AB} (ok : X.Ok) (now delay most : Int) : (X.play now delay most).2.1.Pairwise (fun x y => x.1 < y.1) ∧ (X.play now delay most).2.2.Pairwise (· < ·) ∧
    (∀ x ∈ (X.play now delay most).2.1, X.hor < x.1 ∧ x.1 ≤ (X.play now delay most).1.hor) ∧ (∀ x ∈ (X.play now delay most).2.2, X.hor < x ∧ x ≤ (X.play now delay most).1.hor) ∧
    (∀ x ∈ (X.play now delay most).2.1, x.1 ∉ (X.play now delay most).2.2) ∧ X.hor ≤ (X.play now delay most).1.hor := by
  obtain ⟨o, g, e1, e2, p⟩ := playL_rise (now := now) (delay := delay) (most := most) X.L X [] [] ok.okL
  unfold AB.play
  rw [e1, e2]
  simpa using p
theorem AB.put_okL {X : AB} (ok : X.Ok) {t i c now : Int} {s : ByteArray} (ht : 0 ≤ t ∧ t ≤ 4294967295) (h1 : ¬ t ≤ X.hor) (h2 : ¬ (c < 1 ∨ c > 255 ∨ i < 0 ∨ i ≥ c)) : OkL X (insPut t i c s now X.L).1 := by
  refine ⟨ok.fr, ok.pk, ok.by_, insPut_rise ok.rise, insPut_all ok.time ?_ fun F hF e => ?_, insPut_all ok.parts ?_ fun F hF e => ?_⟩
  · rw [put_time]; exact ⟨by show X.hor < t; omega, ht⟩
  · rw [put_time]; exact ok.time F hF
  · have := (put_len (AF.new t c now) i c s).1
    rw [this]; simp only [AF.new, List.length_replicate]; omega
  · rw [(put_len F i c s).1]; exact ok.parts F hF
theorem AB.put_rise {X : AB} (ok : X.Ok) {t i c now : Int} {s : ByteArray} (ht : 0 ≤ t ∧ t ≤ 4294967295) : (X.put t i c s now).2.2.Pairwise (· < ·) ∧
    (∀ x ∈ (X.put t i c s now).2.2, X.hor < x ∧ x ≤ (X.put t i c s now).1.hor) ∧ X.hor ≤ (X.put t i c s now).1.hor := by
  unfold AB.put
  split
  · exact ⟨by simp, by simp, Int.le_refl _⟩
  · split
    · exact ⟨by simp, by simp, Int.le_refl _⟩
    · rename_i h1 h2
      obtain ⟨g, e1, p⟩ := evict_rise (t := t) (insPut t i c s now X.L).1 X (insPut t i c s now X.L).2 [] (AB.put_okL ok ht h1 h2)
      dsimp only
      rw [e1]
      simpa using p
def putAll (m : List (Int × Value)) (ts : List Int) : List (Int × Value) := ts.foldl (fun m t => aput m t (.bool true)) m
theorem putAll_look (ts : List Int) : ∀ (m : List (Int × Value)) (t : Int), alook (putAll m ts) t = if t ∈ ts then some (.bool true) else alook m t := by
  induction ts with
  | nil => intro m t; simp [putAll]
  | cons u ts ih =>
    intro m t
    show alook (putAll (aput m u (.bool true)) ts) t = _
    rw [ih, alook_aput]
    by_cases h1 : t ∈ ts
    · simp [h1]
    · by_cases h2 : u = t
      · simp [h2]
      · have : ¬ t = u := fun e => h2 e.symm
        simp [h1, h2, this]
theorem putAll_take {m : List (Int × Value)} {ts : List Int} {i : Nat} {t : Int} (h : ts[i]? = some t) : putAll m (ts.take (i + 1)) = aput (putAll m (ts.take i)) t (.bool true) := by
  obtain ⟨hlt, e⟩ := List.getElem?_eq_some_iff.1 h
  unfold putAll
  rw [List.take_succ_eq_append_getElem hlt, List.foldl_append, e]; rfl
def OverM (m : List (Int × Value)) (S : Int → Prop) : Prop := ∀ t, alook m t = none ∧ ¬ S t ∨ alook m t = some (.bool true) ∧ S t
theorem OverM.nil : OverM [] (fun _ => False) := fun t => .inl ⟨rfl, id⟩
theorem OverM.getD {m : List (Int × Value)} {S : Int → Prop} (h : OverM m S) (t : Int) (hS : ¬ S t) : (alook m t).getD (.bool false) = .bool false := by
  rcases h t with ⟨e, _⟩ | ⟨_, hs⟩
  · rw [e]; rfl
  · exact absurd hs hS
theorem OverM.getD' {m : List (Int × Value)} {S : Int → Prop} (h : OverM m S) (t : Int) (hS : S t) : (alook m t).getD (.bool false) = .bool true := by
  rcases h t with ⟨_, hs⟩ | ⟨e, _⟩
  · exact absurd hS hs
  · rw [e]; rfl
theorem OverM.putAll {m : List (Int × Value)} {S : Int → Prop} (h : OverM m S) (ts : List Int) : OverM (putAll m ts) (fun t => S t ∨ t ∈ ts) := fun t => by
  rw [putAll_look]
  by_cases ht : t ∈ ts
  · rw [if_pos ht]; exact .inr ⟨rfl, .inr ht⟩
  · rw [if_neg ht]
    rcases h t with ⟨e, hs⟩ | ⟨e, hs⟩
    · exact .inl ⟨e, fun x => x.elim hs ht⟩
    · exact .inr ⟨e, .inl hs⟩
theorem rise_fresh {α : Type} {f : α → Int} {l : List α} (h : l.Pairwise (fun x y => f x < f y)) {i : Nat} {x : α} (hx : l[i]? = some x) : f x ∉ (l.take i).map f := by
  intro hm
  obtain ⟨y, hy, e⟩ := List.mem_map.1 hm
  obtain ⟨j, hj⟩ := List.mem_iff_getElem?.1 hy
  have hji : j < i := by
    have := (List.getElem?_eq_some_iff.1 hj).1
    rw [List.length_take] at this; omega
  rw [List.getElem?_take_of_lt hji] at hj
  obtain ⟨h1, e1⟩ := List.getElem?_eq_some_iff.1 hj
  obtain ⟨h2, e2⟩ := List.getElem?_eq_some_iff.1 hx
  have := List.pairwise_iff_getElem.1 h j i h1 h2 hji
  rw [e1, e2] at this; omega
end Go.Cd
namespace Go.Proofs.Ytndanmhgbfjinaa
open Go Go.Sl Go.Cd
attribute [local irreducible] Try.prog cl ro mp mpI clT RowP FrP Big LV OV AV O Ld St Nw VB BS Cl Rd Runs OpR VJ VL RdK MSl Cv And2 Bnd binV cvV minV maxV aggO
attribute [local irreducible] BufP
theorem over_loop {w : Value} {mb : Nat} {m : List (Int × Value)} {S : Int → Prop} {g : List Int} {R : List Asn} {F C : Asn} {T : TypeId} {et : TypeId} [hT : UndC Try.prog T (.map 32 et)] [hi : InfC Try.prog et 1 1 (.bool false)] (hm : OverM m S) (hg : g.Pairwise (· < ·)) (hn : ∀ x ∈ g, ¬ S x) (hl : g.length ≤ 100000)
    (k : Ent (OV dU32 w g :: mpI mb .u32 (putAll m g) :: R) C) :
    Ent (OV dU32 w g :: mpI mb .u32 m :: R) (VL [(.int .i64 0)] (fun x _ kk => O (binV .lss (nth x 0) (.int .i64 g.length)) fun v => VB v (O (idxV 1 w (nth x 0)) fun v90 => Ld none v90 fun v91 => Rd Try.prog (Instr.lookup T (.map (some mb)) v91 false) fun v92 =>
      VB v92 F (Runs Try.prog (Instr.mapUpdate T (.map (some mb)) v91 (.bool true)) fun _ => O (binV .add (nth x 0) (.int .i64 1)) fun v93 => kk [v93])) C)) := by
  refine ent_range (S := Unit) (R := R) g.length (fun i _ => [.int .i64 i]) (fun _ _ => True) (fun i _ => [OV dU32 w g, mpI mb .u32 (putAll m (g.take i))]) () rfl trivial pKs ?_ ?_
  · intro i _ _ hi j kk ag
    (refine sTp ?_; repeat (refine bnd fun nb => ?_; refine sTp ?_))
    refine oAtP i rfl hi fun t ht => ?_
    (refine sTp ?_; repeat (refine bnd fun nb => ?_; refine sTp ?_))
    refine oLk1 ?_
    have hin := List.mem_of_getElem? ht
    have hf := rise_fresh (f := fun x : Int => x) hg ht
    rw [List.map_id'] at hf
    rw [(hm.putAll (g.take i)).getD t (fun h => h.elim (hn t hin) hf)]
    (refine sTp ?_; repeat (refine bnd fun nb => ?_; refine sTp ?_))
    refine oUpM ?_
    (refine sTp ?_; repeat (refine bnd fun nb => ?_; refine sTp ?_))
    rw [putAll_take ht] at ag
    exact Ent.again (ag () trivial) (by rfl) pKs
  · intro _ _ j kk
    rw [List.take_length]
    (refine sTp ?_; repeat (refine bnd fun nb => ?_; refine sTp ?_))
    exact k
theorem last_take (last : Int) (out : List (Int × ByteArray)) {i : Nat} {x : Int × ByteArray} (h : out[i]? = some x) : (out.take (i + 1)).foldl (fun _ y => y.1) last = x.1 := by
  obtain ⟨hlt, e⟩ := List.getElem?_eq_some_iff.1 h
  rw [List.take_succ_eq_append_getElem hlt, List.foldl_append, e]; rfl
theorem last_le {last h : Int} (out : List (Int × ByteArray)) (h0 : last ≤ h) (h1 : ∀ x ∈ out, x.1 ≤ h) : out.foldl (fun _ y => y.1) last ≤ h := by
  induction out generalizing last with
  | nil => exact h0
  | cons x out ih => exact ih (h1 x (by simp)) (fun y hy => h1 y (by simp [hy]))
theorem last_lt {last : Int} {out : List (Int × ByteArray)} {i : Nat} {x : Int × ByteArray} (hp : out.Pairwise (fun x y => x.1 < y.1)) (hx : out[i]? = some x) (h0 : last < x.1) : (out.take i).foldl (fun _ y => y.1) last < x.1 := by
  cases i with
  | zero => exact h0
  | succ i =>
    obtain ⟨h2, e2⟩ := List.getElem?_eq_some_iff.1 hx
    have h1 : i < out.length := by omega
    rw [last_take last out (List.getElem?_eq_getElem h1)]
    have := List.pairwise_iff_getElem.1 hp i (i + 1) h1 h2 (by omega)
    rw [e2] at this; exact this
end Go.Proofs.Ytndanmhgbfjinaa
namespace Go.Proofs.Ytndanmhgbfjinaa
open Go Go.Sl Go.Cd
attribute [local irreducible] Try.prog cl ro mp mpI clT RowP FrP Big LV OV AV O Ld St Nw VB BS Cl Rd Runs OpR VJ VL RdK MSl Cv And2 Bnd binV cvV minV maxV aggO
attribute [local irreducible] BufP
def OverH (m : List (Int × Value)) (h : Int) : Prop := ∃ S, OverM m S ∧ ∀ t, S t → t ≤ h
set_option maxHeartbeats 8000000 in
theorem rises_law (c : Cfg) (v : Value) (acts : List BAct) (ha : ∀ a ∈ acts, 0 ≤ a.time ∧ a.time ≤ 4294967295) :
    Ctr Try.prog 4 [.agg (cfgC c).toArray, v] [LV dAct v acts] (fun _ : Unit => .bool true) (fun _ => True) (fun _ => []) := by
  refine ctr_of e4 ?_
  unfold S4 cfgC
  refine oN fun b1 => ?_
  (refine Ctr.use (awake_law) pKs fun _ _ => ?_; (try dsimp only [List.cons_append, List.nil_append, List.append]))
  (refine sTp ?_; repeat (refine bnd fun nb => ?_; refine sTp ?_))
  refine Ctr.use (bnew_fn c) pKs fun b _ => ?_
  (refine sTp ?_; repeat (refine bnd fun nb => ?_; refine sTp ?_))
  refine oM (k := .u32) fun mb => ?_
  refine ent_loopD (S := Nat × Int × Int × AB × List (Int × Value)) (fun s => [.int .i64 s.2.1, .int .i64 s.2.2.1, .int .i64 s.1]) (fun s => s.2.2.2.1.Ok ∧ OverH s.2.2.2.2 s.2.2.2.1.hor ∧ s.2.2.1 ≤ s.2.2.2.1.hor ∧ s.1 ≤ 60) (fun s => 60 - s.1)
    (fun s => [BufP b s.2.2.2.1, mpI mb .u32 s.2.2.2.2, LV dAct v acts]) (0, 0, -1, AB.new c, []) rfl ⟨AB.new_ok c, ⟨_, OverM.nil, fun _ h => h.elim⟩, Int.le_refl _, Nat.zero_le _⟩ pKs ?_
  rintro ⟨i, now, last, X, m⟩ ⟨ok, ⟨S, hS, hSh⟩, hlast, hi⟩ j kk ag
  dsimp only at ok hS hSh hlast hi ⊢
  have hl := ok.lim
  have hq : ∀ H ∈ X.L, H.parts.length ≤ 255 ∧ 0 ≤ H.time ∧ H.time ≤ 4294967295 := fun H hH => ⟨ok.parts H hH, (ok.time H hH).2⟩
  refine ent_VJ' ?_
  by_cases h : i < acts.length ∧ i < 60
  · obtain ⟨h1, h2⟩ := h
    (refine sTp ?_; repeat (refine bnd fun nb => ?_; refine sTp ?_))
    refine ent_all fun _ => ?_
    (refine sTp ?_; repeat (refine bnd fun nb => ?_; refine sTp ?_))
    refine oAtP i rfl h1 fun y hy => ?_
    have hy2 := ha y (List.mem_of_getElem? hy)
    unfold actC
    (refine sTp ?_; repeat (refine bnd fun nb => ?_; refine sTp ?_))
    generalize IntKind.i64.wrap (now + _) = now2
    refine ent_VJ (X := Int × AB × List (Int × Value)) (fun x => [.int .i64 x.1]) (fun x => x.2.1.Ok ∧ OverH x.2.2 x.2.1.hor ∧ x.1 ≤ x.2.1.hor) (fun x => [BufP b x.2.1, mpI mb .u32 x.2.2, LV dAct v acts]) ?_ ?_
    · (refine sTp ?_; repeat (refine bnd fun nb => ?_; refine sTp ?_))
      refine ent_VB (b := y.play) (fun hb => ?_) fun hb => ?_
      · (refine sTp ?_; repeat (refine bnd fun nb => ?_; refine sTp ?_))
        generalize IntKind.i64.wrap _ = de
        generalize IntKind.i64.wrap _ = mo
        obtain ⟨r1, r2, r3, r4, r5, r6⟩ := AB.play_rise ok now2 de mo
        obtain ⟨o1, o2, o3⟩ := AB.play_out ok now2 de mo
        have ok' := (AB.play_ok ok now2 de mo).1
        refine Ctr.use (bplay_fn b X (by omega) (by omega) (by omega) hq now2 de mo) pKs fun x _ => ?_
        obtain ⟨w1, w2⟩ := x
        (try dsimp only [List.cons_append, List.nil_append, List.append])
        refine Ent.pick (pl_ov wHs) ?_
        refine Ent.pick (u32_ov wHs) ?_
        generalize (X.play now2 de mo).1 = X' at *
        generalize (X.play now2 de mo).2.1 = out at *
        generalize (X.play now2 de mo).2.2 = gone at *
        (refine sTp ?_; repeat (refine bnd fun nb => ?_; refine sTp ?_))
        refine ent_rangeD (S := Unit) out.length (fun i _ => [.int .i64 ((out.take i).foldl (fun _ y => y.1) last), .int .i64 i]) (fun _ _ => True)
          (fun i _ => [OV dPu w1 out, mpI mb .u32 (putAll m ((out.take i).map Prod.fst)), OV dU32 w2 gone, BufP b X', LV dAct v acts]) () rfl trivial pKs ?_ ?_
        · intro i' _ _ hi' j' kk' ag'
          (refine sTp ?_; repeat (refine bnd fun nb => ?_; refine sTp ?_))
          refine oAtP i' rfl hi' fun z hz => ?_
          have hin := List.mem_of_getElem? hz
          have hz3 := r3 z hin
          have hz1 := o1 z hin
          have hlt := last_lt (last := last) r1 hz (by omega)
          have hf := rise_fresh (f := Prod.fst) r1 hz
          (refine sTp ?_; repeat (refine bnd fun nb => ?_; refine sTp ?_))
          refine ent_VJ' ?_
          (refine sTp ?_; repeat (refine bnd fun nb => ?_; refine sTp ?_))
          refine oLk1 ?_
          rw [(hS.putAll ((out.take i').map Prod.fst)).getD z.1 (fun h => h.elim (fun h => by have := hSh _ h; omega) hf)]
          refine ent_all fun _ => ?_
          (refine sTp ?_; repeat (refine bnd fun nb => ?_; refine sTp ?_))
          refine oUpM ?_
          (refine sTp ?_; repeat (refine bnd fun nb => ?_; refine sTp ?_))
          have e1 : (out.take (i' + 1)).map Prod.fst = (out.take i').map Prod.fst ++ [z.1] := map_take hz
          have e2 : putAll m ((out.take (i' + 1)).map Prod.fst) = aput (putAll m ((out.take i').map Prod.fst)) z.1 (.bool true) := by rw [e1]; unfold putAll; rw [List.foldl_append]; rfl
          rw [e2, last_take last out hz] at ag'
          exact Ent.again (ag' () trivial) (by rfl) pKs
        · intro _ _ j' kk'
          rw [List.take_length]
          (refine sTp ?_; repeat (refine bnd fun nb => ?_; refine sTp ?_))
          have hS2 := hS.putAll (out.map Prod.fst)
          refine Ent.perm (l' := [OV dU32 w2 gone, mpI mb .u32 (putAll m (out.map Prod.fst)), BufP b X', LV dAct v acts]) pKs ?_
          refine over_loop hS2 r2 (fun x hx h => ?_) (by omega) ?_
          · rcases h with h | h
            · have := hSh _ h; have := r4 x hx; omega
            · obtain ⟨q, hq, e⟩ := List.mem_map.1 h
              exact r5 q hq (by rw [e]; exact hx)
          · refine ent_join (out.foldl (fun _ y => y.1) last, X', putAll (putAll m (out.map Prod.fst)) gone) (by rfl) ⟨ok', ⟨_, hS2.putAll gone, fun t ht => ?_⟩, last_le out (by omega) (fun x hx => (r3 x hx).2)⟩ pKs
            rcases ht with (ht | ht) | ht
            · have := hSh _ ht; dsimp only; omega
            · obtain ⟨q, hq, e⟩ := List.mem_map.1 ht
              have := r3 q hq; dsimp only; omega
            · exact (r4 t ht).2
      · have hc := cutS_size y.data 30
        obtain ⟨r1, r2, r3⟩ := AB.put_rise ok (t := y.time) (i := y.index) (c := y.count) (now := now2) (s := cutS y.data 30) hy2
        obtain ⟨o1, o2⟩ := AB.put_out ok (t := y.time) (i := y.index) (c := y.count) (now := now2) (s := cutS y.data 30) hy2
        have ok' := (AB.put_ok ok (t := y.time) (i := y.index) (c := y.count) (now := now2) (s := cutS y.data 30) hy2).1
        (refine sTp ?_; repeat (refine bnd fun nb => ?_; refine sTp ?_))
        refine Ctr.use (cut_law y.data 30) pKs fun _ _ => ?_
        (refine sTp ?_; repeat (refine bnd fun nb => ?_; refine sTp ?_))
        refine Ctr.use (bput_fn b X ok y.time y.index y.count now2 (cutS y.data 30) hy2 (by omega)) pKs fun w1 _ => ?_
        (try dsimp only [List.cons_append, List.nil_append, List.append])
        refine Ent.pick (u32_ov wHs) ?_
        generalize (X.put y.time y.index y.count (cutS y.data 30) now2).1 = X' at *
        generalize (X.put y.time y.index y.count (cutS y.data 30) now2).2.2 = gone at *
        (refine sTp ?_; repeat (refine bnd fun nb => ?_; refine sTp ?_))
        refine Ent.perm (l' := [OV dU32 w1 gone, mpI mb .u32 m, BufP b X', LV dAct v acts]) pKs ?_
        refine over_loop hS r1 (fun x hx h => ?_) (by omega) ?_
        · have := hSh _ h; have := r2 x hx; omega
        · refine ent_join (last, X', putAll m gone) (by rfl) ⟨ok', ⟨_, hS.putAll gone, fun t ht => ?_⟩, by dsimp only; omega⟩ pKs
          rcases ht with ht | ht
          · have := hSh _ ht; dsimp only; omega
          · exact (r2 t ht).2
    · rintro ⟨last', X', m'⟩ ⟨ok', ⟨S', hS', hSh'⟩, hlast'⟩ j2
      dsimp only at ok' hS' hSh' hlast' ⊢
      have hl' := ok'.lim
      refine Ctr.use (times_fn b X' (by omega)) pKs fun w _ => ?_
      (try dsimp only [List.cons_append, List.nil_append, List.append])
      refine Ent.pick (u32_ov wHs) ?_
      (refine sTp ?_; repeat (refine bnd fun nb => ?_; refine sTp ?_))
      refine ent_rangeD (S := Unit) (X'.L.map AF.time).length (fun i _ => [.int .i64 i]) (fun _ _ => True) (fun i _ => [OV dU32 w (X'.L.map AF.time), BufP b X', mpI mb .u32 m', LV dAct v acts]) () rfl trivial pKs ?_ ?_
      · intro i' _ _ hi' j' kk' ag'
        have hi2 : i' < X'.L.length := by rw [List.length_map] at hi'; exact hi'
        (refine sTp ?_; repeat (refine bnd fun nb => ?_; refine sTp ?_))
        refine oAtP i' rfl hi' fun t ht => ?_
        obtain ⟨F, hF, rfl⟩ := List.mem_map.1 (List.mem_of_getElem? ht)
        have hFt := ok'.time F hF
        (refine sTp ?_; repeat (refine bnd fun nb => ?_; refine sTp ?_))
        refine ent_VJ' ?_
        refine oLk1 ?_
        rw [hS'.getD F.time (fun h => by have := hSh' _ h; omega)]
        (refine sTp ?_; repeat (refine bnd fun nb => ?_; refine sTp ?_))
        (refine Ctr.use (horizon_fn b X') pKs fun _ _ => ?_; (try dsimp only [List.cons_append, List.nil_append, List.append]))
        (refine sTp ?_; repeat (refine bnd fun nb => ?_; refine sTp ?_))
        refine ent_all fun _ => ?_
        (refine sTp ?_; repeat (refine bnd fun nb => ?_; refine sTp ?_))
        exact Ent.again (ag' () trivial) (by rfl) pKs
      · intro _ _ j' kk'
        (refine sTp ?_; repeat (refine bnd fun nb => ?_; refine sTp ?_))
        exact Ent.again (ag (i + 1, now2, last', X', m') ⟨ok', ⟨S', hS', hSh'⟩, hlast', h2⟩ (by dsimp only; omega)) (by rfl) pKs
  · by_cases h1 : i < acts.length
    · have h2 : ¬ i < 60 := fun h2 => h ⟨h1, h2⟩
      (refine sTp ?_; repeat (refine bnd fun nb => ?_; refine sTp ?_))
      refine ent_all fun _ => ?_
      (refine sTp ?_; repeat (refine bnd fun nb => ?_; refine sTp ?_))
      exact ent_ret (()) (by rfl) (by trivial) (Shift.of_picks pKs)
    · (refine sTp ?_; repeat (refine bnd fun nb => ?_; refine sTp ?_))
      refine ent_all fun _ => ?_
      (refine sTp ?_; repeat (refine bnd fun nb => ?_; refine sTp ?_))
      exact ent_ret (()) (by rfl) (by trivial) (Shift.of_picks pKs)
end Go.Proofs.Ytndanmhgbfjinaa
namespace Go.Cd
open Go Go.Sl
def byteS (t : Int) : ByteArray := ⟨#[UInt8.ofNat (t % 256).toNat]⟩
def oneF (now t : Int) : AF := ⟨t, now, [some (byteS t)]⟩
theorem byteS_size (t : Int) : (byteS t).size = 1 := rfl
theorem oneF_have (now t : Int) : haveN (oneF now t).parts = 1 := rfl
theorem oneF_bytes (now t : Int) : bytesN (oneF now t).parts = 1 := rfl
theorem oneF_whole (now t : Int) : (oneF now t).whole = true := rfl
theorem oneF_data (now t : Int) : (oneF now t).data = byteS t := by
  show byteS t ++ ByteArray.empty = byteS t; simp
theorem oneF_new (now t : Int) : (AF.new t 1 now).put 0 1 (byteS t) = (oneF now t, 2) := rfl
theorem oneF_put (now t : Int) (s : ByteArray) : (oneF now t).put 0 1 s = (oneF now t, 3) := rfl
structure OneB (now : Int) (X : AB) (ts : List Int) : Prop where
  c : X.c = ⟨100, 100, 1000⟩
  hor : X.hor = -1
  all : ∀ F ∈ X.L, F = oneF now F.time
  times : ∀ t, t ∈ X.L.map AF.time ↔ t ∈ ts
  len : X.L.length ≤ ts.length
theorem one_sums {now : Int} : ∀ {L : List AF}, (∀ F ∈ L, F = oneF now F.time) → sumH L = L.length ∧ sumB L = L.length
  | [], _ => ⟨rfl, rfl⟩
  | F :: L, h => by
    obtain ⟨h1, h2⟩ := one_sums (L := L) (fun G hG => h G (by simp [hG]))
    have e := h F (by simp)
    simp only [sumH, sumB, h1, h2, List.length_cons]
    rw [e, oneF_have, oneF_bytes]
    omega
theorem insPut_yes {t i c now : Int} {s : ByteArray} : ∀ {L : List AF}, L.Pairwise (fun a b => a.time < b.time) → t ∈ L.map AF.time → (∀ F ∈ L, F.time = t → F.put i c s = (F, 3)) → insPut t i c s now L = (L, 3)
  | [], _, h, _ => by simp at h
  | F :: L, hs, h, hp => by
    rw [List.pairwise_cons] at hs
    by_cases e : F.time = t
    · simp only [insPut, e, if_true]
      rw [hp F (by simp) e]
    · have hm : t ∈ L.map AF.time := by
        rcases List.mem_cons.1 h with h | h
        · exact absurd h.symm e
        · exact h
      obtain ⟨G, hG, hGt⟩ := List.mem_map.1 hm
      have := hs.1 G hG
      simp only [insPut, e, if_false]
      rw [if_neg (by omega), insPut_yes hs.2 hm (fun G hG => hp G (by simp [hG]))]
theorem insPut_no {t i c now : Int} {s : ByteArray} : ∀ {L : List AF}, t ∉ L.map AF.time → (insPut t i c s now L).2 = ((AF.new t c now).put i c s).2 ∧ (insPut t i c s now L).1.length = L.length + 1 ∧
    ∀ F, F ∈ (insPut t i c s now L).1 ↔ F = ((AF.new t c now).put i c s).1 ∨ F ∈ L
  | [], _ => by simp [insPut]
  | F :: L, h => by
    have e : F.time ≠ t := fun e => h (by simp [e])
    simp only [insPut, e, if_false]
    split
    · simp
    · obtain ⟨h1, h2, h3⟩ := insPut_no (t := t) (i := i) (c := c) (now := now) (s := s) (L := L) (fun hm => h (by simp only [List.map_cons, List.mem_cons]; exact .inr hm))
      refine ⟨h1, by simp [h2], fun G => ?_⟩
      simp only [List.mem_cons, h3]
      constructor
      · rintro (h | h | h)
        · exact .inr (.inl h)
        · exact .inl h
        · exact .inr (.inr h)
      · rintro (h | h | h)
        · exact .inr (.inl h)
        · exact .inl h
        · exact .inr (.inr h)
theorem OneB.put {now : Int} {X : AB} {ts : List Int} (ok : X.Ok) (h : OneB now X ts) {t : Int} (ht : 0 ≤ t ∧ t ≤ 4294967295) (hl : ts.length ≤ 60) :
    (X.put t 0 1 (byteS t) now).2.1 = (if t ∈ ts then 3 else 2) ∧ (X.put t 0 1 (byteS t) now).2.2 = [] ∧ OneB now (X.put t 0 1 (byteS t) now).1 (ts ++ [t]) ∧
    (X.put t 0 1 (byteS t) now).1.L.length = X.L.length + (if t ∈ ts then 0 else 1) := by
  have h1 : ¬ t ≤ X.hor := by rw [h.hor]; omega
  have hlen := h.len
  have hs := one_sums h.all
  unfold AB.put
  rw [if_neg h1, if_neg (by omega)]
  dsimp only
  by_cases hm : t ∈ X.L.map AF.time
  · rw [insPut_yes ok.rise hm (fun F hF e => by have := h.all F hF; rw [e] at this; rw [this]; exact oneF_put _ _ _)]
    dsimp only
    rw [evict_end ok.over, AB.with_self, if_pos ((h.times t).1 hm)]
    refine ⟨rfl, rfl, ⟨h.c, h.hor, h.all, fun u => ?_, by simp; omega⟩, by rw [if_pos ((h.times t).1 hm)]; rfl⟩
    rw [h.times u, List.mem_append, List.mem_singleton]
    constructor
    · exact .inl
    · rintro (h' | rfl)
      · exact h'
      · exact (h.times u).1 hm
  · obtain ⟨e1, e2, e3⟩ := insPut_no (t := t) (i := 0) (c := 1) (now := now) (s := byteS t) hm
    rw [oneF_new] at e1 e3
    have hall : ∀ F ∈ (insPut t 0 1 (byteS t) now X.L).1, F = oneF now F.time := fun F hF => by
      rcases (e3 F).1 hF with rfl | hF
      · rfl
      · exact h.all F hF
    have hs2 := one_sums hall
    have ho : over X.c (insPut t 0 1 (byteS t) now X.L).1 = false := by
      rw [h.c]
      refine decide_eq_false ?_
      dsimp only
      omega
    have hnt : t ∉ ts := fun x => hm ((h.times t).2 x)
    rw [evict_end ho, if_neg hnt]
    refine ⟨e1, rfl, ⟨h.c, h.hor, hall, fun u => ?_, ?_⟩, by rw [if_neg hnt]; exact e2⟩
    · show u ∈ ((insPut t 0 1 (byteS t) now X.L).1.map AF.time) ↔ _
      rw [List.mem_append, List.mem_singleton, ← h.times u, List.mem_map, List.mem_map]
      constructor
      · rintro ⟨F, hF, rfl⟩
        rcases (e3 F).1 hF with rfl | hF
        · exact .inr rfl
        · exact .inl ⟨F, hF, rfl⟩
      · rintro (⟨F, hF, rfl⟩ | rfl)
        · exact ⟨F, (e3 F).2 (.inr hF), rfl⟩
        · exact ⟨_, (e3 _).2 (.inl rfl), rfl⟩
    · show (insPut t 0 1 (byteS t) now X.L).1.length ≤ _
      simp; omega
theorem one_early {now de mo : Int} {X : AB} {ts : List Int} (h : OneB now X ts) (now2 : Int) (h1 : ¬ wr64 (now2 - now) ≥ de) (h2 : ¬ wr64 (now2 - now) ≥ mo) : X.play now2 de mo = (X, [], []) := by
  unfold AB.play
  cases hL : X.L with
  | nil => simp only [playL]; rw [← hL]
  | cons F L =>
    have e := h.all F (by rw [hL]; simp)
    have ef : F.first = now := by rw [e]; rfl
    simp only [playL, ef]
    rw [if_neg (fun x => h1 x.2), if_neg h2, ← hL]
theorem playL_one {now de mo now2 : Int} (h1 : wr64 (now2 - now) ≥ de) : ∀ (L : List AF) (X : AB) (out : List (Int × ByteArray)) (gone : List Int), (∀ F ∈ L, F = oneF now F.time) →
    (playL now2 de mo X out gone L).2.1 = out ++ L.map (fun F => (F.time, byteS F.time)) ∧ (playL now2 de mo X out gone L).2.2 = gone ∧ (playL now2 de mo X out gone L).1.L = []
  | [], X, out, gone, _ => by simp [playL]
  | F :: L, X, out, gone, h => by
    have e := h F (by simp)
    have ef : F.first = now := by rw [e]; rfl
    have ew : F.whole = true := by rw [e]; exact oneF_whole _ _
    have ed : F.data = byteS F.time := by
      have := oneF_data now F.time
      rw [← e] at this; exact this
    simp only [playL, ef]
    rw [if_pos ⟨ew, h1⟩, ed]
    have := playL_one (mo := mo) h1 L ⟨X.c, L, F.time, wr64 (X.pl + 1), X.dr, X.ev⟩ (out ++ [(F.time, byteS F.time)]) gone (fun G hG => h G (by simp [hG]))
    simpa using this
end Go.Cd
namespace Go.Proofs.Ytndanmhgbfjinaa
open Go Go.Sl Go.Cd
attribute [local irreducible] Try.prog cl ro mp mpI clT RowP FrP Big LV OV AV O Ld St Nw VB BS Cl Rd Runs OpR VJ VL RdK MSl Cv And2 Bnd binV cvV minV maxV aggO
attribute [local irreducible] BufP
theorem and_le (n : Int) (m : Nat) (hm : m < 9223372036854775808) : 0 ≤ IntKind.i64.wrap ((BitVec.ofInt IntKind.i64.bits n &&& BitVec.ofInt IntKind.i64.bits m).toNat) ∧ IntKind.i64.wrap ((BitVec.ofInt IntKind.i64.bits n &&& BitVec.ofInt IntKind.i64.bits m).toNat) ≤ m := by
  have h : (BitVec.ofInt IntKind.i64.bits n &&& BitVec.ofInt IntKind.i64.bits m).toNat ≤ m := by
    rw [BitVec.toNat_and]
    refine Nat.le_trans Nat.and_le_right ?_
    rw [BitVec.toNat_ofInt]
    show ((m : Int) % ((2 ^ 64 : Nat) : Int)).toNat ≤ m
    omega
  rw [IntWalk.i64_in _ ⟨by omega, by omega⟩]
  omega
theorem u8_wrap (t : Int) : IntKind.u8.wrap t = ((UInt8.ofNat (t % 256).toNat).toNat : Int) := by
  have h1 : IntKind.u8.wrap t = t % 256 := by
    simp [IntKind.wrap, IntKind.signed, IntKind.bits]
  rw [h1]
  have : (UInt8.ofNat (t % 256).toNat).toNat = (t % 256).toNat := by
    rw [UInt8.toNat_ofNat']; omega
  rw [this]; omega
theorem aput_len2 (m : List (Int × Value)) (k : Int) (v w : Value) (h : alook m k = some w) : (aput m k v).length = m.length := by
  induction m with
  | nil => simp [alook] at h
  | cons p m ih =>
    simp only [alook] at h
    simp only [aput]
    split
    · simp
    · rename_i hp
      rw [if_neg hp] at h
      simp [ih h]
set_option maxHeartbeats 8000000 in
theorem sorts_law (v : Value) (ts : List Int) (hts : ∀ t ∈ ts, 0 ≤ t ∧ t ≤ 4294967295) (now0 : Int) :
    Ctr Try.prog 3 [v, .int .i64 now0] [LV dU32 v ts] (fun _ : Unit => .bool true) (fun _ => True) (fun _ => []) := by
  refine ctr_of e3 ?_
  unfold S3
  (refine Ctr.use (awake_law) pKs fun _ _ => ?_; (try dsimp only [List.cons_append, List.nil_append, List.append]))
  (refine sTp ?_; repeat (refine bnd fun nb => ?_; refine sTp ?_))
  refine Ctr.use (bnew_fn ⟨100, 100, 1000⟩) pKs fun b _ => ?_
  (refine sTp ?_; repeat (refine bnd fun nb => ?_; refine sTp ?_))
  have hnow := and_le now0 65535 (by decide)
  generalize IntKind.i64.wrap _ = now at hnow ⊢
  refine oM (k := .u32) fun mb => ?_
  refine ent_loopD (S := Nat × AB × List (Int × Value)) (fun s => [.int .i64 s.1]) (fun s => s.2.1.Ok ∧ OneB now s.2.1 (ts.take s.1) ∧ OverM s.2.2 (· ∈ ts.take s.1) ∧ s.2.2.length = s.2.1.L.length ∧ s.1 ≤ 40) (fun s => 40 - s.1)
    (fun s => [BufP b s.2.1, mpI mb .u32 s.2.2, LV dU32 v ts]) (0, AB.new ⟨100, 100, 1000⟩, []) rfl
    ⟨AB.new_ok _, ⟨rfl, rfl, by simp [AB.new], by simp [AB.new], by simp [AB.new]⟩, by intro t; exact .inl ⟨rfl, by simp⟩, rfl, Nat.zero_le _⟩ pKs ?_
  rintro ⟨i, X, m⟩ ⟨ok, h1, h2, h3, hi⟩ j kk ag
  dsimp only at ok h1 h2 h3 hi ⊢
  have hl := ok.lim
  refine ent_VJ (X := Bool) (fun z => [.bool z]) (fun z => z = decide (i < ts.length ∧ i < 40)) (fun _ => [BufP b X, mpI mb .u32 m, LV dU32 v ts]) ?_ ?_
  · by_cases q1 : i < ts.length
    · by_cases q2 : i < 40
      · (refine sTp ?_; repeat (refine bnd fun nb => ?_; refine sTp ?_))
        exact ent_join true (by rfl) (by simp [q1, q2]) pKs
      · (refine sTp ?_; repeat (refine bnd fun nb => ?_; refine sTp ?_))
        exact ent_join false (by rfl) (by simp [q2]) pKs
    · (refine sTp ?_; repeat (refine bnd fun nb => ?_; refine sTp ?_))
      exact ent_join false (by rfl) (by simp [q1]) pKs
  intro z hz j2
  refine ent_VB (b := z) (fun hb => ?_) fun hb => ?_
  · obtain ⟨q1, q2⟩ := of_decide_eq_true (hz ▸ hb)
    have hx : ts[i]? = some ts[i] := List.getElem?_eq_getElem q1
    have ht := hts ts[i] (List.getElem_mem q1)
    have hlen : (ts.take i).length = i := by rw [List.length_take]; omega
    obtain ⟨p1, p2, p3, p4⟩ := h1.put ok ht (by omega)
    have ok' := (AB.put_ok ok (t := ts[i]) (i := 0) (c := 1) (now := now) (s := byteS ts[i]) ht).1
    have htake : ts.take (i + 1) = ts.take i ++ [ts[i]] := List.take_succ_eq_append_getElem q1
    generalize ht' : ts[i] = t at *
    (refine sTp ?_; repeat (refine bnd fun nb => ?_; refine sTp ?_))
    refine oAtP i rfl q1 fun y hy => ?_
    rw [hx] at hy; obtain rfl := Option.some.inj hy
    (refine sTp ?_; repeat (refine bnd fun nb => ?_; refine sTp ?_))
    refine oAtP i rfl q1 fun y hy => ?_
    rw [hx] at hy; obtain rfl := Option.some.inj hy
    (refine sTp ?_; repeat (refine bnd fun nb => ?_; refine sTp ?_))
    refine oBS nMs fun nb1 => ?_
    refine Ent.mk1 dU8 (b := nb1) (UInt8.ofNat (t % 256).toNat) wHs (fun h s => by show _ = u8 _; rw [u8_wrap]; rfl) ?_
    refine oB2S ?_
    rw [show (⟨[UInt8.ofNat (t % 256).toNat].toArray⟩ : ByteArray) = byteS t from rfl]
    refine Ctr.use (bput_fn b X ok t 0 1 now (byteS t) ht (by rw [byteS_size]; decide)) pKs fun w1 _ => ?_
    (try dsimp only [List.cons_append, List.nil_append, List.append])
    refine Ent.pick (u32_ov wHs) ?_
    refine oSlD w1 fun a5 c5 e5 => ?_
    subst e5
    rw [p1, p2]
    generalize (X.put t 0 1 (byteS t) now).1 = X' at *
    (refine sTp ?_; repeat (refine bnd fun nb => ?_; refine sTp ?_))
    by_cases hm : t ∈ ts.take i
    · rw [if_pos hm, Nat.add_zero] at p4
      rw [if_pos hm]
      refine ent_VJ' ?_
      refine oAtP i rfl q1 fun y hy => ?_
      rw [hx] at hy; obtain rfl := Option.some.inj hy
      (refine sTp ?_; repeat (refine bnd fun nb => ?_; refine sTp ?_))
      refine oLk1 ?_
      rw [h2.getD' t hm]
      (refine sTp ?_; repeat (refine bnd fun nb => ?_; refine sTp ?_))
      refine oAtP i rfl q1 fun y hy => ?_
      rw [hx] at hy; obtain rfl := Option.some.inj hy
      (refine sTp ?_; repeat (refine bnd fun nb => ?_; refine sTp ?_))
      refine oLk1 ?_
      rw [h2.getD' t hm]
      (refine sTp ?_; repeat (refine bnd fun nb => ?_; refine sTp ?_))
      refine ent_all fun _ => ?_
      (refine sTp ?_; repeat (refine bnd fun nb => ?_; refine sTp ?_))
      refine oAtP i rfl q1 fun y hy => ?_
      rw [hx] at hy; obtain rfl := Option.some.inj hy
      (refine sTp ?_; repeat (refine bnd fun nb => ?_; refine sTp ?_))
      refine oUpM ?_
      (refine sTp ?_; repeat (refine bnd fun nb => ?_; refine sTp ?_))
      have hlk : alook m t = some (.bool true) := by
        rcases h2 t with ⟨_, n⟩ | ⟨e, _⟩
        · exact absurd hm n
        · exact e
      refine Ent.again (ag (i + 1, X', aput m t (.bool true)) ⟨ok', by dsimp only; rw [htake]; exact p3, ?_, by dsimp only; rw [aput_len2 m t _ _ hlk, p4]; exact h3, q2⟩ (by dsimp only; omega)) (by rfl) pKs
      have := h2.putAll [t]
      intro u
      rcases this u with ⟨e, n⟩ | ⟨e, n⟩
      · exact .inl ⟨e, fun x => n (by rw [htake, List.mem_append] at x; exact x)⟩
      · exact .inr ⟨e, by dsimp only; rw [htake, List.mem_append]; exact n⟩
    · rw [if_neg hm] at p4
      rw [if_neg hm]
      refine ent_VJ' ?_
      refine oAtP i rfl q1 fun y hy => ?_
      rw [hx] at hy; obtain rfl := Option.some.inj hy
      (refine sTp ?_; repeat (refine bnd fun nb => ?_; refine sTp ?_))
      refine oLk1 ?_
      rw [h2.getD t hm]
      (refine sTp ?_; repeat (refine bnd fun nb => ?_; refine sTp ?_))
      refine oAtP i rfl q1 fun y hy => ?_
      rw [hx] at hy; obtain rfl := Option.some.inj hy
      (refine sTp ?_; repeat (refine bnd fun nb => ?_; refine sTp ?_))
      refine oLk1 ?_
      rw [h2.getD t hm]
      (refine sTp ?_; repeat (refine bnd fun nb => ?_; refine sTp ?_))
      refine ent_all fun _ => ?_
      (refine sTp ?_; repeat (refine bnd fun nb => ?_; refine sTp ?_))
      refine oAtP i rfl q1 fun y hy => ?_
      rw [hx] at hy; obtain rfl := Option.some.inj hy
      (refine sTp ?_; repeat (refine bnd fun nb => ?_; refine sTp ?_))
      refine oUpM ?_
      (refine sTp ?_; repeat (refine bnd fun nb => ?_; refine sTp ?_))
      have hlk : alook m t = none := by
        rcases h2 t with ⟨e, _⟩ | ⟨_, n⟩
        · exact e
        · exact absurd n hm
      refine Ent.again (ag (i + 1, X', aput m t (.bool true)) ⟨ok', by dsimp only; rw [htake]; exact p3, ?_, by dsimp only; rw [aput_len m t _ hlk, p4, h3], q2⟩ (by dsimp only; omega)) (by rfl) pKs
      have := h2.putAll [t]
      intro u
      rcases this u with ⟨e, n⟩ | ⟨e, n⟩
      · exact .inl ⟨e, fun x => n (by rw [htake, List.mem_append] at x; exact x)⟩
      · exact .inr ⟨e, by dsimp only; rw [htake, List.mem_append]; exact n⟩
  · have hq : ∀ H ∈ X.L, H.parts.length ≤ 255 ∧ 0 ≤ H.time ∧ H.time ≤ 4294967295 := fun H hH => ⟨ok.parts H hH, (ok.time H hH).2⟩
    have w4 : wr64 (now + 4 - now) = 4 := by
      have : now + 4 - now = 4 := by omega
      rw [this]; rfl
    have w5 : wr64 (now + 5 - now) = 5 := by
      have : now + 5 - now = 5 := by omega
      rw [this]; rfl
    have e4 := one_early h1 (de := 5) (mo := 9) (now + 4) (by rw [w4]; decide) (by rw [w4]; decide)
    obtain ⟨e5, e6, e7⟩ := playL_one (now := now) (de := 5) (mo := 9) (now2 := now + 5) (by rw [w5]; decide) X.L X [] [] h1.all
    (refine sTp ?_; repeat (refine bnd fun nb => ?_; refine sTp ?_))
    refine Ctr.use (bplay_fn b X (by omega) (by omega) (by omega) hq (now + 4) 5 9) pKs fun x _ => ?_
    obtain ⟨w1, w2⟩ := x
    rw [e4]
    (try dsimp only [List.cons_append, List.nil_append, List.append])
    refine Ent.pick (pl_ov wHs) ?_
    refine Ent.pick (u32_ov wHs) ?_
    (refine sTp ?_; repeat (refine bnd fun nb => ?_; refine sTp ?_))
    refine Ctr.use (bplay_fn b X (by omega) (by omega) (by omega) hq (now + 5) 5 9) pKs fun x _ => ?_
    obtain ⟨w3, w4⟩ := x
    have hpl : X.play (now + 5) 5 9 = playL (now + 5) 5 9 X [] [] X.L := rfl
    rw [hpl, e5, e6]
    have hX2 : (playL (now + 5) 5 9 X [] [] X.L).1.L.length = 0 := by rw [e7]; rfl
    generalize (playL (now + 5) 5 9 X [] [] X.L).1 = X2 at hX2 ⊢
    rw [List.nil_append]
    have hlen : (X.L.map fun F => (F.time, byteS F.time)).length = X.L.length := by rw [List.length_map]
    (try dsimp only [List.cons_append, List.nil_append, List.append])
    refine Ent.pick (pl_ov (v := w3) wHs) ?_
    refine Ent.pick (u32_ov (v := w4) wHs) ?_
    (refine sTp ?_; repeat (refine bnd fun nb => ?_; refine sTp ?_))
    refine ent_VJ' ?_
    (refine sTp ?_; repeat (refine bnd fun nb => ?_; refine sTp ?_))
    refine oLnM ?_
    rw [h3, hlen]
    (refine sTp ?_; repeat (refine bnd fun nb => ?_; refine sTp ?_))
    refine ent_all fun _ => ?_
    (refine sTp ?_; repeat (refine bnd fun nb => ?_; refine sTp ?_))
    rw [hlen]
    refine ent_rangeD (S := Unit) X.L.length (fun i _ => [.int .i64 i]) (fun _ _ => True) (fun i _ => [OV dPu w3 (X.L.map fun F => (F.time, byteS F.time)), mpI mb .u32 m, BufP b X2]) () rfl trivial pKs ?_ ?_
    · intro i' _ _ hi' j' kk' ag'
      (refine sTp ?_; repeat (refine bnd fun nb => ?_; refine sTp ?_))
      refine oAtP i' rfl (by omega) fun y hy => ?_
      rw [List.getElem?_map, List.getElem?_eq_getElem hi'] at hy
      obtain rfl := (Option.some.inj hy).symm
      have hF := List.getElem_mem hi'
      generalize hFe : X.L[i'] = F at *
      have hm : F.time ∈ ts.take i := (h1.times _).1 (List.mem_map.2 ⟨F, hF, rfl⟩)
      (refine sTp ?_; repeat (refine bnd fun nb => ?_; refine sTp ?_))
      refine ent_VJ' ?_
      (refine sTp ?_; repeat (refine bnd fun nb => ?_; refine sTp ?_))
      refine oLk1 ?_
      rw [h2.getD' F.time hm]
      (refine sTp ?_; repeat (refine bnd fun nb => ?_; refine sTp ?_))
      refine oBS nMs fun nb1 => ?_
      refine Ent.mk1 dU8 (b := nb1) (UInt8.ofNat (F.time % 256).toNat) wHs (fun h s => by show _ = u8 _; rw [u8_wrap]; rfl) ?_
      refine oB2S ?_
      rw [show (⟨[UInt8.ofNat (F.time % 256).toNat].toArray⟩ : ByteArray) = byteS F.time from rfl]
      (refine sTp ?_; repeat (refine bnd fun nb => ?_; refine sTp ?_))
      rw [show decide (byteS F.time ≠ byteS F.time) = false by simp]
      (refine sTp ?_; repeat (refine bnd fun nb => ?_; refine sTp ?_))
      by_cases h0 : i' = 0
      · subst h0
        (refine sTp ?_; repeat (refine bnd fun nb => ?_; refine sTp ?_))
        refine ent_all fun _ => ?_
        (refine sTp ?_; repeat (refine bnd fun nb => ?_; refine sTp ?_))
        exact Ent.again (ag' () trivial) (by rfl) pKs
      · (refine sTp ?_; repeat (refine bnd fun nb => ?_; refine sTp ?_))
        have hi2 : i' - 1 < X.L.length := by omega
        refine oAtFP (i := (i' : Int) - 1) (i' - 1) (by omega) (by omega) fun y hy => ?_
        rw [List.getElem?_map, List.getElem?_eq_getElem hi2] at hy
        obtain rfl := (Option.some.inj hy).symm
        have hlt : X.L[i' - 1].time < F.time := by
          rw [← hFe]
          exact List.pairwise_iff_getElem.1 ok.rise (i' - 1) i' hi2 hi' (by omega)
        (refine sTp ?_; repeat (refine bnd fun nb => ?_; refine sTp ?_))
        refine ent_all fun _ => ?_
        (refine sTp ?_; repeat (refine bnd fun nb => ?_; refine sTp ?_))
        exact Ent.again (ag' () trivial) (by rfl) pKs
    · intro _ _ j' kk'
      (refine sTp ?_; repeat (refine bnd fun nb => ?_; refine sTp ?_))
      (refine Ctr.use (len_fn b X2) pKs fun _ _ => ?_; (try dsimp only [List.cons_append, List.nil_append, List.append]))
      rw [hX2]
      (refine sTp ?_; repeat (refine bnd fun nb => ?_; refine sTp ?_))
      exact ent_ret (()) (by rfl) (by trivial) (Shift.of_picks pKs)
end Go.Proofs.Ytndanmhgbfjinaa
namespace Go.Proofs.Ytndanmhgbfjinaa
open Go Go.Sl Go.Cd
theorem read_u32s {W : World} {v : Value} (h : Rdg Try.prog W 22 [v]) : ∃ ts : List Int, (∀ t ∈ ts, 0 ≤ t ∧ t ≤ 4294967295) ∧ LV dU32 v ts (roW W) := by
  have ce : Try.prog.cellsOf 32 = 1 := by kernel_rfl
  obtain ⟨v', rows, e, _, hr, row⟩ := Rdg.slice Try.underlying22 (by rw [ce]; decide) h
  cases e
  rw [ce] at row
  obtain ⟨ts, h1, _, h3⟩ := LV.of_rows (D := dU32) (Q := fun t : Int => 0 ≤ t ∧ t ≤ 4294967295) (fun r hr' => by
    obtain ⟨n, rfl, r1⟩ := Rdg.int Try.underlying32 (hr r hr').2
    exact ⟨n, r1, rfl⟩) row
  exact ⟨ts, h1, h3⟩
end Go.Proofs.Ytndanmhgbfjinaa
