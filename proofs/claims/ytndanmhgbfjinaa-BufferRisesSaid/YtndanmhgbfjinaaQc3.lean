/- Part 3 of the proof: definitions and lemmas that the last text builds on. -/
import Derived.Test.YtndanmhgbfjinaaQc2
import Derived.ProofKit
set_option linter.all false
set_option linter.unusedVariables false
set_option linter.unusedSimpArgs false
namespace Go.Sl
open Go
section
variable {P : Program} {l R : List Asn} {K : Value → Asn} {α : Type}
def bsS (P : Program) (size : Nat) (m : Option Nat) (a0 a1 a2 : Value) (K : Value → Asn) : Asn :=
  O (lenL a0) fun v1 =>
  VL [(.int .i64 0), v1] (fun x3 j4 k2 =>
  O (binV .lss (nth x3 0) (nth x3 1)) fun v5 =>
  VB v5
  (O (binV .add (nth x3 0) (nth x3 1)) fun v6 =>
  O (cvV .u64 v6) fun v7 =>
  O (binV .shr v7 (.int .u64 1)) fun v8 =>
  O (cvV .i64 v8) fun v9 =>
  O (idxV size a0 v9) fun v10 =>
  Ld m v10 fun v11 =>
  Cv P a2 [v11, a1] fun v12 =>
  O (binV .lss v12 (.int .i64 0)) fun v13 =>
  VB v13
  (O (binV .add v9 (.int .i64 1)) fun v14 =>
  k2 [v14, (nth x3 1)])
  (k2 [(nth x3 0), v9]))
  (O (binV .lss (nth x3 0) v1) fun v15 =>
  VB v15
  (O (idxV size a0 (nth x3 0)) fun v16 =>
  Ld m v16 fun v17 =>
  Cv P a2 [v17, a1] fun v18 =>
  O (binV .eql v18 (.int .i64 0)) fun v19 =>
  K (.tuple #[(nth x3 0), v19]))
  (K (.tuple #[(nth x3 0), (.bool false)]))))
def hit (c : α → Int) : Option α → Bool
  | some y => decide (c y = 0)
  | none => false
theorem bs_ok {size : Nat} {m : Option Nat} {v a1 a2 : Value} {f : α → List Value} [s : Sized f size] {xs : List α} (x : HasR l size v xs.length (flat f xs)) (hs : Nat.ble 1 size = true) (hn : xs.length ≤ 281474976710656)
    (el : α → Value) (hel : ∀ y, rdV (f y) 0 m = some (el y)) (c : α → Int)
    (hc : ∀ (k : Nat) (y : α), xs[k]? = some y → ∀ K : Value → Asn, Ent l (K (.int .i64 (c y))) → Ent l (Cv P a2 [el y, a1] K))
    (at_ : Nat) (hat : at_ ≤ xs.length) (hlo : ∀ (k : Nat) (y : α), xs[k]? = some y → k < at_ → c y < 0) (hhi : ∀ (k : Nat) (y : α), xs[k]? = some y → at_ ≤ k → 0 ≤ c y)
    (q : Ent l (K (.tuple #[.int .i64 at_, .bool (hit c xs[at_]?)]))) : Ent l (bsS P size m v a1 a2 K) := by
  unfold bsS
  haveI : HasRC l v size xs.length (flat f xs) := ⟨x⟩
  refine oLenE hs ?_
  refine ent_VL0 (X := Nat × Nat) (fun p => [.int .i64 p.1, .int .i64 p.2]) (fun p => p.1 ≤ at_ ∧ at_ ≤ p.2 ∧ p.2 ≤ xs.length) (fun p => p.2 - p.1) (0, xs.length) rfl ⟨Nat.zero_le _, hat, Nat.le_refl _⟩ ?_
  rintro ⟨i, j⟩ ⟨h1, h2, h3⟩ _
  dsimp only at h1 h2 h3
  refine ent_O rfl ?_
  refine oI (fun hlt => ?_) fun hge => ?_
  · have hlt' : i < j := by omega
    refine oAdd (by omega) (by omega) ?_
    refine ent_O (v := .int .u64 ((i : Int) + j)) ?_ ?_
    · show some (Value.int .u64 (IntKind.u64.wrap ((i : Int) + j))) = _
      rw [IntWalk.u64_in _ ⟨by omega, by omega⟩]
    refine ent_O rfl ?_
    have hmid : (((i : Int) + j).fdiv (2 ^ min (1 : Int).toNat IntKind.u64.bits)) = (((i + j) / 2 : Nat) : Int) := by
      have : (2 ^ min (1 : Int).toNat IntKind.u64.bits : Int) = 2 := rfl
      rw [this, Int.fdiv_eq_ediv_of_nonneg _ (by decide)]; omega
    rw [hmid]
    refine oCv (by omega) (by omega) ?_
    have hm1 : (i + j) / 2 < j := by omega
    have hm2 : i ≤ (i + j) / 2 := by omega
    have hm3 : (i + j) / 2 < xs.length := by omega
    generalize (i + j) / 2 = k at hm1 hm2 hm3
    have hk : xs[k]? = some xs[k] := List.getElem?_eq_getElem hm3
    refine oAt hs (by omega) (by rw [Int.toNat_natCast]; exact hk) (hel _) ?_
    refine hc k _ hk _ ?_
    refine ent_O rfl ?_
    refine oI (fun hneg => ?_) fun hneg => ?_
    · have : k < at_ := by
        rcases Nat.lt_or_ge k at_ with g | g
        · exact g
        · have := hhi k _ hk g; omega
      refine oAdd (by omega) (by omega) ?_
      exact ent_again0 (k + 1, j) (by rfl) ⟨by omega, by omega, by omega⟩ (show j - (k + 1) < j - i by omega)
    · have : at_ ≤ k := by
        rcases Nat.lt_or_ge k at_ with g | g
        · have := hlo k _ hk g; omega
        · exact g
      exact ent_again0 (i, k) (by rfl) ⟨by omega, by omega, by omega⟩ (show k - i < j - i by omega)
  · have he : i = at_ := by omega
    subst he
    refine ent_O rfl ?_
    refine oI (fun hlt => ?_) fun hge2 => ?_
    · have hlt' : i < xs.length := by omega
      have hk : xs[i]? = some xs[i] := List.getElem?_eq_getElem hlt'
      rw [hk] at q
      refine oAt hs (by omega) (by show xs[((i : Nat) : Int).toNat]? = _; rw [Int.toNat_natCast]; exact hk) (hel _) ?_
      refine hc i _ hk _ ?_
      refine oEq ?_
      exact q
    · have : xs[i]? = none := List.getElem?_eq_none (by omega)
      rw [this] at q
      exact q
end
end Go.Sl
namespace Go.Sl
open Go
section
variable {P : Program} {l R : List Asn} {K : Value → Asn} {α : Type}
def Big (A : α → Asn) : List α → Asn
  | [] => fun _ => True
  | x :: l => fun h => Star [A x, Big A l] h
theorem star2 {A B : Asn} {h : PH} : Star [A, B] h ↔ ∃ h1 h2, Dj h1 h2 ∧ Le (un h1 h2) h ∧ A h1 ∧ B h2 := by
  constructor
  · rintro ⟨h1, h2, d, le, a, k1, k2, d', le', b, _⟩
    exact ⟨h1, k1, d.mono (Le.refl _) ((Le.left _ _).trans le'), Le.un ((Le.left _ _).trans le) (((Le.left _ _).trans le').trans ((Le.right d).trans le)), a, b⟩
  · rintro ⟨h1, h2, d, le, a, b⟩
    exact ⟨h1, h2, d, le, a, h2, emp, Dj.emp h2, Le.un (Le.refl _) (fun _ _ e => by simp [emp] at e), b, trivial⟩
theorem Big.swap {A : α → Asn} {x y : α} {l : List α} {h : PH} (s : Big A (x :: y :: l) h) : Big A (y :: x :: l) h := by
  obtain ⟨h1, h2, d, le, a, r⟩ := star2.1 s
  obtain ⟨k1, k2, d', le', b, r'⟩ := star2.1 r
  have e1 : Le k1 h2 := (Le.left _ _).trans le'
  have e2 : Le k2 h2 := (Le.right d').trans le'
  have lh1 : Le h1 h := (Le.left _ _).trans le
  have lh2 : Le h2 h := (Le.right d).trans le
  refine star2.2 ⟨k1, un h1 k2, (d.symm.mono e1 (Le.refl _)).un_right d', Le.un (e1.trans lh2) (Le.un lh1 (e2.trans lh2)), b, star2.2 ⟨h1, k2, d.mono (Le.refl _) e2, Le.refl _, a, r'⟩⟩
theorem Big.perm {A : α → Asn} {l l' : List α} (p : l.Perm l') : ∀ {h : PH}, Big A l h → Big A l' h := by
  induction p with
  | nil => intro h s; exact s
  | cons x _ ih =>
    intro h s
    obtain ⟨h1, h2, d, le, a, r⟩ := star2.1 s
    exact star2.2 ⟨h1, h2, d, le, a, ih r⟩
  | swap x y l => intro h s; exact Big.swap s
  | trans _ _ ih1 ih2 => intro h s; exact ih2 (ih1 s)
theorem Ent.bigTake {φ : Asn} {A : α → Asn} {xs ys : List α} (x : α) (p : Pick l (Big A xs) R) (hp : xs.Perm (x :: ys)) (e : Ent (A x :: Big A ys :: R) φ) : Ent l φ :=
  Ent.open (m := [A x, Big A ys]) p (fun _ a => Big.perm hp a) e
theorem Ent.bigPut {φ : Asn} {A : α → Asn} {xs ys : List α} (x : α) (p : Picks l [A x, Big A ys] R) (hp : (x :: ys).Perm xs) (e : Ent (Big A xs :: R) φ) : Ent l φ :=
  Ent.close p (fun _ s => Big.perm hp s) e
theorem perm_at {xs : List α} {i : Nat} {x : α} (h : xs[i]? = some x) : xs.Perm (x :: xs.eraseIdx i) := by
  induction xs generalizing i with
  | nil => simp at h
  | cons y xs ih =>
    cases i with
    | zero => simp at h; subst h; simp
    | succ i =>
      simp only [List.getElem?_cons_succ] at h
      rw [List.eraseIdx_cons_succ]
      exact ((ih h).cons y).trans (List.Perm.swap x y _)
theorem perm_set {xs : List α} {i : Nat} (h : i < xs.length) (y : α) : (y :: xs.eraseIdx i).Perm (xs.set i y) := by
  have h2 : (xs.set i y)[i]? = some y := by simp [h]
  have := perm_at h2
  rw [List.eraseIdx_set_eq] at this
  exact this.symm
theorem perm_ins (xs : List α) (i : Nat) (y : α) : (y :: xs).Perm (xs.take i ++ y :: xs.drop i) := by
  have : (y :: (xs.take i ++ xs.drop i)).Perm (xs.take i ++ y :: xs.drop i) := List.perm_middle.symm
  rwa [List.take_append_drop] at this
theorem Ent.bigNil {φ : Asn} (A : α → Asn) (e : Ent (Big A [] :: l) φ) : Ent l φ := fun h s => e h ⟨emp, h, (Dj.emp h).symm, Le.un (fun _ _ e => by simp [emp] at e) (Le.refl _), trivial, s⟩
theorem Ctr.useAt {f : FuncId} {args : List Value} {X : Type} {res : X → Value} {φ : X → Prop} {A : α → Asn} {xs : List α} {x : α} {i : Nat}
    (F : Ctr P f args [A x] res φ (fun _ => [A x])) (p : Pick l (Big A xs) R) (hx : xs[i]? = some x) (k : ∀ u, φ u → Ent (Big A xs :: R) (K (res u))) : Ent l (Cl P f args K) := by
  refine Ent.bigTake x p (perm_at hx) ?_
  refine Ctr.use F (.cons Pick.here .nil) fun u hu => ?_
  exact Ent.bigPut x (.cons .here (.cons .here .nil)) (perm_at hx).symm (k u hu)
end
end Go.Sl
namespace Go.Cd
open Go Go.Sl
structure Cfg where
  fr : Int
  pk : Int
  by_ : Int
def clipI (n most : Int) : Int := max 1 (min n most)
def Cfg.clip (c : Cfg) : Cfg := ⟨clipI c.fr 1024, clipI c.pk 65536, clipI c.by_ 67108864⟩
structure AB where
  c : Cfg
  L : List AF
  hor : Int
  pl : Int
  dr : Int
  ev : Int
def sumH : List AF → Nat
  | [] => 0
  | F :: L => haveN F.parts + sumH L
def sumB : List AF → Nat
  | [] => 0
  | F :: L => bytesN F.parts + sumB L
def AB.new (c : Cfg) : AB := ⟨c.clip, [], -1, 0, 0, 0⟩
def over (c : Cfg) (L : List AF) : Bool := decide ((L.length : Int) > c.fr ∨ (sumH L : Int) > c.pk ∨ (sumB L : Int) > c.by_)
def insPut (t i count : Int) (s : ByteArray) (now : Int) : List AF → List AF × Int
  | [] => let r := (AF.new t count now).put i count s; ([r.1], r.2)
  | F :: L =>
    if F.time = t then let r := F.put i count s; (r.1 :: L, r.2)
    else if t < F.time then let r := (AF.new t count now).put i count s; (r.1 :: F :: L, r.2)
    else let r := insPut t i count s now L; (F :: r.1, r.2)
def wr64 (x : Int) : Int := IntKind.i64.wrap x
def evict (t : Int) (X : AB) (kind : Int) (out : List Int) : List AF → AB × Int × List Int
  | [] => (⟨X.c, [], X.hor, X.pl, X.dr, X.ev⟩, kind, out)
  | F :: L =>
    if over X.c (F :: L) then evict t ⟨X.c, L, F.time, X.pl, X.dr, wr64 (X.ev + 1)⟩ (if F.time = t then 6 else kind) (out ++ [F.time]) L
    else (⟨X.c, F :: L, X.hor, X.pl, X.dr, X.ev⟩, kind, out)
def AB.put (X : AB) (t i count : Int) (s : ByteArray) (now : Int) : AB × Int × List Int :=
  if t ≤ X.hor then (X, 5, [])
  else if count < 1 ∨ count > 255 ∨ i < 0 ∨ i ≥ count then (X, 4, [])
  else
    let r := insPut t i count s now X.L
    evict t X r.2 [] r.1
def playL (now delay most : Int) (X : AB) (out : List (Int × ByteArray)) (gone : List Int) : List AF → AB × List (Int × ByteArray) × List Int
  | [] => (⟨X.c, [], X.hor, X.pl, X.dr, X.ev⟩, out, gone)
  | F :: L =>
    if F.whole ∧ wr64 (now - F.first) ≥ delay then playL now delay most ⟨X.c, L, F.time, wr64 (X.pl + 1), X.dr, X.ev⟩ (out ++ [(F.time, F.data)]) gone L
    else if wr64 (now - F.first) ≥ most then playL now delay most ⟨X.c, L, F.time, X.pl, wr64 (X.dr + 1), X.ev⟩ out (gone ++ [F.time]) L
    else (⟨X.c, F :: L, X.hor, X.pl, X.dr, X.ev⟩, out, gone)
def AB.play (X : AB) (now delay most : Int) : AB × List (Int × ByteArray) × List Int := playL now delay most X [] [] X.L
structure AB.Ok (X : AB) : Prop where
  fr : 1 ≤ X.c.fr ∧ X.c.fr ≤ 1024
  pk : 1 ≤ X.c.pk ∧ X.c.pk ≤ 65536
  by_ : 1 ≤ X.c.by_ ∧ X.c.by_ ≤ 67108864
  rise : X.L.Pairwise fun F G => F.time < G.time
  time : ∀ F ∈ X.L, X.hor < F.time ∧ 0 ≤ F.time ∧ F.time ≤ 4294967295
  parts : ∀ F ∈ X.L, F.parts.length ≤ 255
  over : over X.c X.L = false
end Go.Cd
namespace Go.Proofs.Ytndanmhgbfjinaa
open Go Go.Sl Go.Cd
attribute [local irreducible] Try.prog cl ro mp mpI clT RowP FrP Big
def bufR (c : Cfg) (t1 t2 t3 : Int) (v : Value) (hor pl dr ev : Int) : List Value :=
  [.int .i64 c.fr, .int .i64 c.pk, .int .i64 c.by_, .int .i64 t1, .int .i64 t2, .int .i64 t3, v, .int .i64 hor, .int .i64 pl, .int .i64 dr, .int .i64 ev]
def ptE (p : Nat × AF) : List Value := [pt p.1]
instance : Sized ptE 1 := ⟨fun _ => rfl, fun _ => rfl⟩
abbrev FrE (p : Nat × AF) : Asn := FrP p.1 p.2
def BufP (b : Nat) (X : AB) : Asn := fun h => ∃ q : Value × List (Nat × AF), q.2.map Prod.snd = X.L ∧
  Star [cl b (bufR X.c X.L.length (sumH X.L) (sumB X.L) q.1 X.hor X.pl X.dr X.ev), Rw ptE q.1 q.2, Big FrE q.2] h
theorem BufP.open {b : Nat} {X : AB} (h : PH) (a : BufP b X h) : ∃ q : Value × List (Nat × AF), q.2.map Prod.snd = X.L ∧
  Star [cl b (bufR X.c X.L.length (sumH X.L) (sumB X.L) q.1 X.hor X.pl X.dr X.ev), Rw ptE q.1 q.2, Big FrE q.2] h := a
theorem BufP.close {b : Nat} {X : AB} {v : Value} {ps : List (Nat × AF)} (e : ps.map Prod.snd = X.L) (h : PH)
    (s : Star [cl b (bufR X.c X.L.length (sumH X.L) (sumB X.L) v X.hor X.pl X.dr X.ev), Rw ptE v ps, Big FrE ps] h) : BufP b X h := ⟨(v, ps), e, s⟩
theorem clip_fn (n most : Int) : Ctr Try.prog 31 [.int .i64 n, .int .i64 most] [] (fun _ : Unit => .int .i64 (clipI n most)) (fun _ => True) (fun _ => []) := by
  refine ctr_of e31 ?_
  unfold S31
  refine ent_O rfl ?_
  refine ent_O rfl ?_
  refine ent_ret () ?_ trivial (Shift.of_picks (by repeat (first | exact .nil | apply Picks.cons (by first | exact Pick.ro (by repeat (first | exact has_here | apply has_there)) | exact .per | ((repeat (first | exact Pick.here | apply Pick.there)); done) | (apply Pick.avO; (repeat (first | exact Pick.here | apply Pick.there)); done) | exact Pick.avL (by repeat (first | exact has_here | apply has_there))) | exact Picks.all _)))
  congr 1
  unfold clipI
  split <;> split <;> omega
theorem Clip_fn (c : Cfg) : Ctr Try.prog 16 [.agg #[.int .i64 c.fr, .int .i64 c.pk, .int .i64 c.by_]] [] (fun _ : Unit => .agg #[.int .i64 c.clip.fr, .int .i64 c.clip.pk, .int .i64 c.clip.by_]) (fun _ => True) (fun _ => []) := by
  refine ctr_of e16 ?_
  unfold S16
  (try dsimp only [List.cons_append, List.nil_append, List.append]); repeat (first | refine oEq ?_ | refine oNe ?_ | refine oAdd (by omega) (by omega) ?_ | refine oSub (by omega) (by omega) ?_ | refine oMul (by omega) (by omega) ?_ | refine oCv (by omega) (by omega) ?_ | refine ent_O rfl ?_ | refine oL rfl ?_ | refine oS rfl rfl rfl rfl ?_ | (refine oN fun nb => ?_) | refine ent_true ?_ | refine ent_false ?_ | refine oA (by first | exact ent_undef | (refine oL rfl ?_; exact ent_Is)) ?_)
  refine Ctr.use (clip_fn c.fr 1024) (by repeat (first | exact .nil | apply Picks.cons (by first | exact Pick.ro (by repeat (first | exact has_here | apply has_there)) | exact .per | ((repeat (first | exact Pick.here | apply Pick.there)); done) | (apply Pick.avO; (repeat (first | exact Pick.here | apply Pick.there)); done) | exact Pick.avL (by repeat (first | exact has_here | apply has_there))) | exact Picks.all _)) fun _ _ => ?_
  (try dsimp only [List.cons_append, List.nil_append, List.append]); repeat (first | refine oEq ?_ | refine oNe ?_ | refine oAdd (by omega) (by omega) ?_ | refine oSub (by omega) (by omega) ?_ | refine oMul (by omega) (by omega) ?_ | refine oCv (by omega) (by omega) ?_ | refine ent_O rfl ?_ | refine oL rfl ?_ | refine oS rfl rfl rfl rfl ?_ | (refine oN fun nb => ?_) | refine ent_true ?_ | refine ent_false ?_ | refine oA (by first | exact ent_undef | (refine oL rfl ?_; exact ent_Is)) ?_)
  refine Ctr.use (clip_fn c.pk 65536) (by repeat (first | exact .nil | apply Picks.cons (by first | exact Pick.ro (by repeat (first | exact has_here | apply has_there)) | exact .per | ((repeat (first | exact Pick.here | apply Pick.there)); done) | (apply Pick.avO; (repeat (first | exact Pick.here | apply Pick.there)); done) | exact Pick.avL (by repeat (first | exact has_here | apply has_there))) | exact Picks.all _)) fun _ _ => ?_
  (try dsimp only [List.cons_append, List.nil_append, List.append]); repeat (first | refine oEq ?_ | refine oNe ?_ | refine oAdd (by omega) (by omega) ?_ | refine oSub (by omega) (by omega) ?_ | refine oMul (by omega) (by omega) ?_ | refine oCv (by omega) (by omega) ?_ | refine ent_O rfl ?_ | refine oL rfl ?_ | refine oS rfl rfl rfl rfl ?_ | (refine oN fun nb => ?_) | refine ent_true ?_ | refine ent_false ?_ | refine oA (by first | exact ent_undef | (refine oL rfl ?_; exact ent_Is)) ?_)
  refine Ctr.use (clip_fn c.by_ 67108864) (by repeat (first | exact .nil | apply Picks.cons (by first | exact Pick.ro (by repeat (first | exact has_here | apply has_there)) | exact .per | ((repeat (first | exact Pick.here | apply Pick.there)); done) | (apply Pick.avO; (repeat (first | exact Pick.here | apply Pick.there)); done) | exact Pick.avL (by repeat (first | exact has_here | apply has_there))) | exact Picks.all _)) fun _ _ => ?_
  (try dsimp only [List.cons_append, List.nil_append, List.append]); repeat (first | refine oEq ?_ | refine oNe ?_ | refine oAdd (by omega) (by omega) ?_ | refine oSub (by omega) (by omega) ?_ | refine oMul (by omega) (by omega) ?_ | refine oCv (by omega) (by omega) ?_ | refine ent_O rfl ?_ | refine oL rfl ?_ | refine oS rfl rfl rfl rfl ?_ | (refine oN fun nb => ?_) | refine ent_true ?_ | refine ent_false ?_ | refine oA (by first | exact ent_undef | (refine oL rfl ?_; exact ent_Is)) ?_)
  exact ent_ret () rfl trivial (Shift.of_picks (by repeat (first | exact .nil | apply Picks.cons (by first | exact Pick.ro (by repeat (first | exact has_here | apply has_there)) | exact .per | ((repeat (first | exact Pick.here | apply Pick.there)); done) | (apply Pick.avO; (repeat (first | exact Pick.here | apply Pick.there)); done) | exact Pick.avL (by repeat (first | exact has_here | apply has_there))) | exact Picks.all _)))
theorem bnew_fn (c : Cfg) : Ctr Try.prog 8 [.agg #[.int .i64 c.fr, .int .i64 c.pk, .int .i64 c.by_]] [] pt (fun _ : Nat => True) (fun b => [BufP b (AB.new c)]) := by
  refine ctr_of e8 ?_
  unfold S8
  (try dsimp only [List.cons_append, List.nil_append, List.append]); repeat (first | refine oEq ?_ | refine oNe ?_ | refine oAdd (by omega) (by omega) ?_ | refine oSub (by omega) (by omega) ?_ | refine oMul (by omega) (by omega) ?_ | refine oCv (by omega) (by omega) ?_ | refine ent_O rfl ?_ | refine oL rfl ?_ | refine oS rfl rfl rfl rfl ?_ | (refine oN fun nb => ?_) | refine ent_true ?_ | refine ent_false ?_ | refine oA (by first | exact ent_undef | (refine oL rfl ?_; exact ent_Is)) ?_)
  refine Ctr.use (Clip_fn c) (by repeat (first | exact .nil | apply Picks.cons (by first | exact Pick.ro (by repeat (first | exact has_here | apply has_there)) | exact .per | ((repeat (first | exact Pick.here | apply Pick.there)); done) | (apply Pick.avO; (repeat (first | exact Pick.here | apply Pick.there)); done) | exact Pick.avL (by repeat (first | exact has_here | apply has_there))) | exact Picks.all _)) fun _ _ => ?_
  (try dsimp only [List.cons_append, List.nil_append])
  refine ent_O rfl ?_
  refine oN fun b => ?_
  refine oNil ptE ?_
  refine Ent.bigNil FrE ?_
  exact ent_ret b (by rfl) (by trivial) (Shift.close (m := [cl b (bufR c.clip 0 0 0 (.slice none 0 0) (-1) 0 0 0), Rw ptE (.slice none 0 0) [], Big FrE []]) (by repeat (first | exact .nil | apply Picks.cons (by first | exact Pick.ro (by repeat (first | exact has_here | apply has_there)) | exact .per | ((repeat (first | exact Pick.here | apply Pick.there)); done) | (apply Pick.avO; (repeat (first | exact Pick.here | apply Pick.there)); done) | exact Pick.avL (by repeat (first | exact has_here | apply has_there))) | exact Picks.all _)) (BufP.close (b := b) (X := AB.new c) (v := .slice none 0 0) (ps := []) rfl))
theorem add_fn (b p : Nat) (F : AF) (c : Cfg) (t1 t2 t3 : Int) (v : Value) (hor pl dr ev sg : Int) (h1 : -1000000000000000 ≤ t1 ∧ t1 ≤ 1000000000000000) (h2 : -1000000000000000 ≤ t2 ∧ t2 ≤ 1000000000000000) (h3 : -1000000000000000 ≤ t3 ∧ t3 ≤ 1000000000000000)
    (hF : F.parts.length ≤ 255) (hB : bytesN F.parts ≤ 70368744177664) (hs : sg = 1 ∨ sg = -1) :
    Ctr Try.prog 24 [.pointer (some ⟨b, 3, none⟩), pt p, .int .i64 sg] [cl b (bufR c t1 t2 t3 v hor pl dr ev), FrP p F] (fun _ : Unit => .tuple #[]) (fun _ => True)
      (fun _ => [cl b (bufR c (t1 + sg) (t2 + sg * haveN F.parts) (t3 + sg * bytesN F.parts) v hor pl dr ev), FrP p F]) := by
  refine ctr_of e24 ?_
  unfold S24
  have hh := haveN_le F.parts
  have hm1 : -255 ≤ sg * haveN F.parts ∧ sg * haveN F.parts ≤ 255 := by rcases hs with rfl | rfl <;> omega
  have hm2 : -70368744177664 ≤ sg * bytesN F.parts ∧ sg * bytesN F.parts ≤ 70368744177664 := by rcases hs with rfl | rfl <;> omega
  refine ent_O rfl ?_
  refine ent_O rfl ?_
  refine oL rfl ?_
  refine oAdd (by omega) (by omega) ?_
  (try dsimp only [List.cons_append, List.nil_append, List.append]); repeat (first | refine oEq ?_ | refine oNe ?_ | refine oAdd (by omega) (by omega) ?_ | refine oSub (by omega) (by omega) ?_ | refine oMul (by omega) (by omega) ?_ | refine oCv (by omega) (by omega) ?_ | refine ent_O rfl ?_ | refine oL rfl ?_ | refine oS rfl rfl rfl rfl ?_ | (refine oN fun nb => ?_) | refine ent_true ?_ | refine ent_false ?_ | refine oA (by first | exact ent_undef | (refine oL rfl ?_; exact ent_Is)) ?_)
  refine Ctr.use (have_fn p F) (by repeat (first | exact .nil | apply Picks.cons (by first | exact Pick.ro (by repeat (first | exact has_here | apply has_there)) | exact .per | ((repeat (first | exact Pick.here | apply Pick.there)); done) | (apply Pick.avO; (repeat (first | exact Pick.here | apply Pick.there)); done) | exact Pick.avL (by repeat (first | exact has_here | apply has_there))) | exact Picks.all _)) fun _ _ => ?_
  (try dsimp only [List.cons_append, List.nil_append, List.append]); repeat (first | refine oEq ?_ | refine oNe ?_ | refine oAdd (by omega) (by omega) ?_ | refine oSub (by omega) (by omega) ?_ | refine oMul (by omega) (by omega) ?_ | refine oCv (by omega) (by omega) ?_ | refine ent_O rfl ?_ | refine oL rfl ?_ | refine oS rfl rfl rfl rfl ?_ | (refine oN fun nb => ?_) | refine ent_true ?_ | refine ent_false ?_ | refine oA (by first | exact ent_undef | (refine oL rfl ?_; exact ent_Is)) ?_)
  (try dsimp only [List.cons_append, List.nil_append, List.append]); repeat (first | refine oEq ?_ | refine oNe ?_ | refine oAdd (by omega) (by omega) ?_ | refine oSub (by omega) (by omega) ?_ | refine oMul (by omega) (by omega) ?_ | refine oCv (by omega) (by omega) ?_ | refine ent_O rfl ?_ | refine oL rfl ?_ | refine oS rfl rfl rfl rfl ?_ | (refine oN fun nb => ?_) | refine ent_true ?_ | refine ent_false ?_ | refine oA (by first | exact ent_undef | (refine oL rfl ?_; exact ent_Is)) ?_)
  refine Ctr.use (bytes_fn p F) (by repeat (first | exact .nil | apply Picks.cons (by first | exact Pick.ro (by repeat (first | exact has_here | apply has_there)) | exact .per | ((repeat (first | exact Pick.here | apply Pick.there)); done) | (apply Pick.avO; (repeat (first | exact Pick.here | apply Pick.there)); done) | exact Pick.avL (by repeat (first | exact has_here | apply has_there))) | exact Picks.all _)) fun _ _ => ?_
  (try dsimp only [List.cons_append, List.nil_append, List.append]); repeat (first | refine oEq ?_ | refine oNe ?_ | refine oAdd (by omega) (by omega) ?_ | refine oSub (by omega) (by omega) ?_ | refine oMul (by omega) (by omega) ?_ | refine oCv (by omega) (by omega) ?_ | refine ent_O rfl ?_ | refine oL rfl ?_ | refine oS rfl rfl rfl rfl ?_ | (refine oN fun nb => ?_) | refine ent_true ?_ | refine ent_false ?_ | refine oA (by first | exact ent_undef | (refine oL rfl ?_; exact ent_Is)) ?_)
  (try dsimp only [List.cons_append, List.nil_append, List.append]); repeat (first | refine oEq ?_ | refine oNe ?_ | refine oAdd (by omega) (by omega) ?_ | refine oSub (by omega) (by omega) ?_ | refine oMul (by omega) (by omega) ?_ | refine oCv (by omega) (by omega) ?_ | refine ent_O rfl ?_ | refine oL rfl ?_ | refine oS rfl rfl rfl rfl ?_ | (refine oN fun nb => ?_) | refine ent_true ?_ | refine ent_false ?_ | refine oA (by first | exact ent_undef | (refine oL rfl ?_; exact ent_Is)) ?_)
  exact ent_ret () rfl trivial (Shift.of_picks (by repeat (first | exact .nil | apply Picks.cons (by first | exact Pick.ro (by repeat (first | exact has_here | apply has_there)) | exact .per | ((repeat (first | exact Pick.here | apply Pick.there)); done) | (apply Pick.avO; (repeat (first | exact Pick.here | apply Pick.there)); done) | exact Pick.avL (by repeat (first | exact has_here | apply has_there))) | exact Picks.all _)))
end Go.Proofs.Ytndanmhgbfjinaa
namespace Go.Proofs.Ytndanmhgbfjinaa
open Go Go.Sl Go.Cd
attribute [local irreducible] Try.prog cl ro mp mpI clT RowP FrP Big
theorem over_fn (b : Nat) (c : Cfg) (t1 t2 t3 : Int) (v : Value) (hor pl dr ev : Int) :
    Ctr Try.prog 26 [pt b] [cl b (bufR c t1 t2 t3 v hor pl dr ev)] (fun _ : Unit => .bool (decide (t1 > c.fr ∨ t2 > c.pk ∨ t3 > c.by_))) (fun _ => True) (fun _ => [cl b (bufR c t1 t2 t3 v hor pl dr ev)]) := by
  refine ctr_of e26 ?_
  unfold S26
  (try dsimp only [List.cons_append, List.nil_append, List.append]); repeat (first | refine oEq ?_ | refine oNe ?_ | refine oAdd (by omega) (by omega) ?_ | refine oSub (by omega) (by omega) ?_ | refine oMul (by omega) (by omega) ?_ | refine oCv (by omega) (by omega) ?_ | refine ent_O rfl ?_ | refine oL rfl ?_ | refine oS rfl rfl rfl rfl ?_ | (refine oN fun nb => ?_) | refine ent_true ?_ | refine ent_false ?_ | refine oA (by first | exact ent_undef | (refine oL rfl ?_; exact ent_Is)) ?_)
  refine oI (fun h1 => ?_) fun h1 => ?_
  · exact ent_ret () (by simp [h1]) trivial (Shift.of_picks (by repeat (first | exact .nil | apply Picks.cons (by first | exact Pick.ro (by repeat (first | exact has_here | apply has_there)) | exact .per | ((repeat (first | exact Pick.here | apply Pick.there)); done) | (apply Pick.avO; (repeat (first | exact Pick.here | apply Pick.there)); done) | exact Pick.avL (by repeat (first | exact has_here | apply has_there))) | exact Picks.all _)))
  (try dsimp only [List.cons_append, List.nil_append, List.append]); repeat (first | refine oEq ?_ | refine oNe ?_ | refine oAdd (by omega) (by omega) ?_ | refine oSub (by omega) (by omega) ?_ | refine oMul (by omega) (by omega) ?_ | refine oCv (by omega) (by omega) ?_ | refine ent_O rfl ?_ | refine oL rfl ?_ | refine oS rfl rfl rfl rfl ?_ | (refine oN fun nb => ?_) | refine ent_true ?_ | refine ent_false ?_ | refine oA (by first | exact ent_undef | (refine oL rfl ?_; exact ent_Is)) ?_)
  refine oI (fun h2 => ?_) fun h2 => ?_
  · exact ent_ret () (by simp [h2]) trivial (Shift.of_picks (by repeat (first | exact .nil | apply Picks.cons (by first | exact Pick.ro (by repeat (first | exact has_here | apply has_there)) | exact .per | ((repeat (first | exact Pick.here | apply Pick.there)); done) | (apply Pick.avO; (repeat (first | exact Pick.here | apply Pick.there)); done) | exact Pick.avL (by repeat (first | exact has_here | apply has_there))) | exact Picks.all _)))
  (try dsimp only [List.cons_append, List.nil_append, List.append]); repeat (first | refine oEq ?_ | refine oNe ?_ | refine oAdd (by omega) (by omega) ?_ | refine oSub (by omega) (by omega) ?_ | refine oMul (by omega) (by omega) ?_ | refine oCv (by omega) (by omega) ?_ | refine ent_O rfl ?_ | refine oL rfl ?_ | refine oS rfl rfl rfl rfl ?_ | (refine oN fun nb => ?_) | refine ent_true ?_ | refine ent_false ?_ | refine oA (by first | exact ent_undef | (refine oL rfl ?_; exact ent_Is)) ?_)
  exact ent_ret () (by simp [h1, h2]) trivial (Shift.of_picks (by repeat (first | exact .nil | apply Picks.cons (by first | exact Pick.ro (by repeat (first | exact has_here | apply has_there)) | exact .per | ((repeat (first | exact Pick.here | apply Pick.there)); done) | (apply Pick.avO; (repeat (first | exact Pick.here | apply Pick.there)); done) | exact Pick.avL (by repeat (first | exact has_here | apply has_there))) | exact Picks.all _)))
theorem delete_fn (v : Value) (ps : List (Nat × AF)) (i j : Int) (h0 : 0 ≤ i) (h1 : i ≤ j) (h2 : j ≤ ps.length) :
    Ctr Try.prog 47 [v, .int .i64 i, .int .i64 j] [Rw ptE v ps] (fun v : Value => v) (fun _ => True) (fun v => [Rw ptE v (ps.take i.toNat ++ ps.drop j.toNat)]) := by
  refine ctr_of e47 ?_
  have key : ∀ K : Value → Asn, (∀ v, Ent [Rw ptE v (ps.take i.toNat ++ ps.drop j.toNat)] (K v)) → Ent [Rw ptE v ps] (S47 Try.prog v (.int .i64 i) (.int .i64 j) K) := fun K q =>
    del_ok (P := Try.prog) (T := 63) (size := 1) (f := ptE) UndC.und (InfC.inf (P := Try.prog) (t := 66)) rfl rfl rfl h0 h1 h2 P0 q
  exact key _ fun v => ent_ret v (by rfl) (by trivial) (Shift.of_picks (by repeat (first | exact .nil | apply Picks.cons (by first | exact Pick.ro (by repeat (first | exact has_here | apply has_there)) | exact .per | ((repeat (first | exact Pick.here | apply Pick.there)); done) | (apply Pick.avO; (repeat (first | exact Pick.here | apply Pick.there)); done) | exact Pick.avL (by repeat (first | exact has_here | apply has_there))) | exact Picks.all _)))
theorem pop_fn (b : Nat) (X : AB) (F : AF) (L : List AF) (hL : X.L = F :: L) (hl : X.L.length ≤ 100000) (hH : sumH X.L ≤ 1000000000) (hB : sumB X.L ≤ 70368744177664) (hF : F.parts.length ≤ 255) (ht : 0 ≤ F.time ∧ F.time ≤ 4294967295) :
    Ctr Try.prog 27 [pt b] [BufP b X] pt (fun _ : Nat => True) (fun p => [BufP b ⟨X.c, L, F.time, X.pl, X.dr, X.ev⟩, FrP p F]) := by
  refine ctr_of e27 ?_
  refine Ent.openX P0 BufP.open fun ⟨v, ps⟩ he => ?_
  unfold S27
  dsimp only at he ⊢
  rw [hL] at he
  obtain ⟨⟨p, F'⟩, qs, rfl⟩ : ∃ x qs, ps = x :: qs := by
    cases ps with
    | nil => simp at he
    | cons x qs => exact ⟨x, qs, rfl⟩
  simp only [List.map_cons, List.cons.injEq] at he
  obtain ⟨e1, e2⟩ := he
  subst e1
  (try dsimp only [List.cons_append, List.nil_append, List.append]); repeat (first | refine oEq ?_ | refine oNe ?_ | refine oAdd (by omega) (by omega) ?_ | refine oSub (by omega) (by omega) ?_ | refine oMul (by omega) (by omega) ?_ | refine oCv (by omega) (by omega) ?_ | refine ent_O rfl ?_ | refine oL rfl ?_ | refine oS rfl rfl rfl rfl ?_ | (refine oN fun nb => ?_) | refine ent_true ?_ | refine ent_false ?_ | refine oA (by first | exact ent_undef | (refine oL rfl ?_; exact ent_Is)) ?_)
  refine oAt (f := ptE) (xs := (p, F') :: qs) rfl (by decide) rfl rfl ?_
  (try dsimp only [List.cons_append, List.nil_append, List.append]); repeat (first | refine oEq ?_ | refine oNe ?_ | refine oAdd (by omega) (by omega) ?_ | refine oSub (by omega) (by omega) ?_ | refine oMul (by omega) (by omega) ?_ | refine oCv (by omega) (by omega) ?_ | refine ent_O rfl ?_ | refine oL rfl ?_ | refine oS rfl rfl rfl rfl ?_ | (refine oN fun nb => ?_) | refine ent_true ?_ | refine ent_false ?_ | refine oA (by first | exact ent_undef | (refine oL rfl ?_; exact ent_Is)) ?_)
  refine Ctr.use (delete_fn v ((p, F') :: qs) 0 1 (by decide) (by decide) (by simp only [List.length_cons]; omega)) (by repeat (first | exact .nil | apply Picks.cons (by first | exact Pick.ro (by repeat (first | exact has_here | apply has_there)) | exact .per | ((repeat (first | exact Pick.here | apply Pick.there)); done) | (apply Pick.avO; (repeat (first | exact Pick.here | apply Pick.there)); done) | exact Pick.avL (by repeat (first | exact has_here | apply has_there))) | exact Picks.all _)) fun v' _ => ?_
  (try dsimp only [List.cons_append, List.nil_append])
  rw [show ((p, F') :: qs).take (0 : Int).toNat ++ ((p, F') :: qs).drop (1 : Int).toNat = qs from rfl]
  refine oSl v' fun base cap e => ?_
  subst e
  refine Ent.bigTake (p, F') (ys := qs) P2 (List.Perm.refl _) ?_
  (try dsimp only [List.cons_append, List.nil_append, List.append]); repeat (first | refine oEq ?_ | refine oNe ?_ | refine oAdd (by omega) (by omega) ?_ | refine oSub (by omega) (by omega) ?_ | refine oMul (by omega) (by omega) ?_ | refine oCv (by omega) (by omega) ?_ | refine ent_O rfl ?_ | refine oL rfl ?_ | refine oS rfl rfl rfl rfl ?_ | (refine oN fun nb => ?_) | refine ent_true ?_ | refine ent_false ?_ | refine oA (by first | exact ent_undef | (refine oL rfl ?_; exact ent_Is)) ?_)
  refine Ctr.use (add_fn b p F' X.c X.L.length (sumH X.L) (sumB X.L) (.slice base qs.length cap) X.hor X.pl X.dr X.ev (-1) (by omega) (by omega) (by omega) hF ?_ (.inr rfl)) (by repeat (first | exact .nil | apply Picks.cons (by first | exact Pick.ro (by repeat (first | exact has_here | apply has_there)) | exact .per | ((repeat (first | exact Pick.here | apply Pick.there)); done) | (apply Pick.avO; (repeat (first | exact Pick.here | apply Pick.there)); done) | exact Pick.avL (by repeat (first | exact has_here | apply has_there))) | exact Picks.all _)) fun _ _ => ?_
  · rw [hL] at hB; simp only [sumB] at hB; omega
  (try dsimp only [List.cons_append, List.nil_append, List.append]); repeat (first | refine oEq ?_ | refine oNe ?_ | refine oAdd (by omega) (by omega) ?_ | refine oSub (by omega) (by omega) ?_ | refine oMul (by omega) (by omega) ?_ | refine oCv (by omega) (by omega) ?_ | refine ent_O rfl ?_ | refine oL rfl ?_ | refine oS rfl rfl rfl rfl ?_ | (refine oN fun nb => ?_) | refine ent_true ?_ | refine ent_false ?_ | refine oA (by first | exact ent_undef | (refine oL rfl ?_; exact ent_Is)) ?_)
  refine Ctr.use (time_fn p F') (by repeat (first | exact .nil | apply Picks.cons (by first | exact Pick.ro (by repeat (first | exact has_here | apply has_there)) | exact .per | ((repeat (first | exact Pick.here | apply Pick.there)); done) | (apply Pick.avO; (repeat (first | exact Pick.here | apply Pick.there)); done) | exact Pick.avL (by repeat (first | exact has_here | apply has_there))) | exact Picks.all _)) fun _ _ => ?_
  (try dsimp only [List.cons_append, List.nil_append])
  refine oCv (by omega) (by omega) ?_
  (try dsimp only [List.cons_append, List.nil_append, List.append]); repeat (first | refine oEq ?_ | refine oNe ?_ | refine oAdd (by omega) (by omega) ?_ | refine oSub (by omega) (by omega) ?_ | refine oMul (by omega) (by omega) ?_ | refine oCv (by omega) (by omega) ?_ | refine ent_O rfl ?_ | refine oL rfl ?_ | refine oS rfl rfl rfl rfl ?_ | (refine oN fun nb => ?_) | refine ent_true ?_ | refine ent_false ?_ | refine oA (by first | exact ent_undef | (refine oL rfl ?_; exact ent_Is)) ?_)
  have hc : bufR X.c L.length (sumH L) (sumB L) (.slice base qs.length cap) F'.time X.pl X.dr X.ev
      = bufR X.c (X.L.length + -1) ((sumH X.L : Int) + -1 * haveN F'.parts) ((sumB X.L : Int) + -1 * bytesN F'.parts) (.slice base qs.length cap) F'.time X.pl X.dr X.ev := by
    rw [hL]
    simp only [sumH, sumB, List.length_cons]
    congr 2 <;> (congr 1; omega)
  refine Ent.close (m := [cl b (bufR X.c L.length (sumH L) (sumB L) (.slice base qs.length cap) F'.time X.pl X.dr X.ev), Rw ptE (.slice base qs.length cap) qs, Big FrE qs]) (by rw [hc]; exact (by repeat (first | exact .nil | apply Picks.cons (by first | exact Pick.ro (by repeat (first | exact has_here | apply has_there)) | exact .per | ((repeat (first | exact Pick.here | apply Pick.there)); done) | (apply Pick.avO; (repeat (first | exact Pick.here | apply Pick.there)); done) | exact Pick.avL (by repeat (first | exact has_here | apply has_there))) | exact Picks.all _)))
    (BufP.close (b := b) (X := ⟨X.c, L, F'.time, X.pl, X.dr, X.ev⟩) e2) ?_
  exact ent_ret p (by rfl) (by trivial) (Shift.of_picks (by repeat (first | exact .nil | apply Picks.cons (by first | exact Pick.ro (by repeat (first | exact has_here | apply has_there)) | exact .per | ((repeat (first | exact Pick.here | apply Pick.there)); done) | (apply Pick.avO; (repeat (first | exact Pick.here | apply Pick.there)); done) | exact Pick.avL (by repeat (first | exact has_here | apply has_there))) | exact Picks.all _)))
end Go.Proofs.Ytndanmhgbfjinaa
namespace Go.Cd
open Go Go.Sl
def cmp3 (a b : Int) : Int := if a < b then -1 else if a > b then 1 else 0
variable {α : Type}
def posT (f : α → Int) (t : Int) : List α → Nat
  | [] => 0
  | x :: l => if f x < t then posT f t l + 1 else 0
theorem posT_le (f : α → Int) (t : Int) (l : List α) : posT f t l ≤ l.length := by
  induction l with
  | nil => exact Nat.le_refl _
  | cons x l ih => simp only [posT]; split <;> simp <;> omega
theorem posT_lo (f : α → Int) (t : Int) (l : List α) (k : Nat) (y : α) (h : l[k]? = some y) (hk : k < posT f t l) : f y < t := by
  induction l generalizing k with
  | nil => simp at h
  | cons x l ih =>
    simp only [posT] at hk
    split at hk
    · cases k with
      | zero => simp at h; subst h; assumption
      | succ k => simp only [List.getElem?_cons_succ] at h; exact ih k h (by omega)
    · omega
theorem posT_hi (f : α → Int) (t : Int) (l : List α) (hs : l.Pairwise fun a b => f a < f b) (k : Nat) (y : α) (h : l[k]? = some y) (hk : posT f t l ≤ k) : t ≤ f y := by
  induction l generalizing k with
  | nil => simp at h
  | cons x l ih =>
    simp only [posT] at hk
    rw [List.pairwise_cons] at hs
    split at hk
    · cases k with
      | zero => omega
      | succ k => simp only [List.getElem?_cons_succ] at h; exact ih hs.2 k h (by omega)
    · cases k with
      | zero => simp at h; subst h; omega
      | succ k =>
        simp only [List.getElem?_cons_succ] at h
        have := hs.1 y (List.mem_of_getElem? h)
        omega
def withT (t count now : Int) (L : List AF) : List AF × Nat :=
  let k := posT AF.time t L
  match L[k]? with
  | some F => if F.time = t then (L, k) else (L.take k ++ AF.new t count now :: L.drop k, k)
  | none => (L.take k ++ AF.new t count now :: L.drop k, k)
theorem posT_map (g : α → AF) (t : Int) (l : List α) : posT AF.time t (l.map g) = posT (fun x => (g x).time) t l := by
  induction l with
  | nil => rfl
  | cons x l ih => simp only [List.map_cons, posT, ih]
theorem withT_yes {t count now : Int} {L : List AF} {F : AF} (h : L[posT AF.time t L]? = some F) (e : F.time = t) : withT t count now L = (L, posT AF.time t L) := by
  simp [withT, h, e]
theorem withT_no {t count now : Int} {L : List AF} (h : ∀ F, L[posT AF.time t L]? = some F → F.time ≠ t) :
    withT t count now L = (L.take (posT AF.time t L) ++ AF.new t count now :: L.drop (posT AF.time t L), posT AF.time t L) := by
  unfold withT
  cases hk : L[posT AF.time t L]? with
  | none => simp only [hk]
  | some F => simp only [hk, h F hk, if_false]
theorem ins_at (L : List α) (k : Nat) (hk : k ≤ L.length) (G : α) : (L.take k ++ G :: L.drop k)[k]? = some G := by
  rw [List.getElem?_append_right (by rw [List.length_take]; omega), List.length_take, Nat.min_eq_left hk]; simp
theorem withT_at (t count now : Int) (L : List AF) : ∃ F, (withT t count now L).1[(withT t count now L).2]? = some F ∧ F.time = t := by
  have hk := posT_le AF.time t L
  by_cases h : ∃ F, L[posT AF.time t L]? = some F ∧ F.time = t
  · obtain ⟨F, h1, h2⟩ := h
    rw [withT_yes h1 h2]; exact ⟨F, h1, h2⟩
  · rw [withT_no fun F h1 h2 => h ⟨F, h1, h2⟩]
    exact ⟨_, ins_at L _ hk _, rfl⟩
theorem insPut_eq (t i count : Int) (s : ByteArray) (now : Int) (L : List AF) (hs : L.Pairwise fun a b => a.time < b.time) {F : AF} (hF : (withT t count now L).1[(withT t count now L).2]? = some F) :
    insPut t i count s now L = ((withT t count now L).1.set (withT t count now L).2 (F.put i count s).1, (F.put i count s).2) := by
  induction L with
  | nil => simp [withT, posT] at hF; subst hF; simp [insPut, withT, posT]
  | cons G L ih =>
    rw [List.pairwise_cons] at hs
    by_cases h1 : G.time < t
    · have e : withT t count now (G :: L) = (G :: (withT t count now L).1, (withT t count now L).2 + 1) := by
        unfold withT
        simp only [posT, h1, if_true, List.getElem?_cons_succ, List.take_succ_cons, List.drop_succ_cons, List.cons_append]
        cases h : L[posT AF.time t L]? with
        | none => rfl
        | some F' => dsimp only; split <;> rfl
      rw [e] at hF ⊢
      simp only [List.getElem?_cons_succ] at hF
      simp only [insPut, ih hs.2 hF, List.set_cons_succ]
      rw [if_neg (by omega), if_neg (by omega)]
    · have e0 : posT AF.time t (G :: L) = 0 := by simp [posT, h1]
      by_cases h2 : G.time = t
      · have e : withT t count now (G :: L) = (G :: L, 0) := by simp [withT, e0, h2]
        rw [e] at hF ⊢
        simp at hF; subst hF
        simp [insPut, h2]
      · have e : withT t count now (G :: L) = (AF.new t count now :: G :: L, 0) := by simp [withT, e0, h2]
        rw [e] at hF ⊢
        simp at hF; subst hF
        simp only [insPut, h2, if_false]
        rw [if_pos (by omega)]; rfl
end Go.Cd
namespace Go.Proofs.Ytndanmhgbfjinaa
open Go Go.Sl Go.Cd
attribute [local irreducible] Try.prog cl ro mp mpI clT RowP FrP Big
theorem isNaN_fn (a : Int) : Ctr Try.prog 55 [.int .u32 a] [] (fun _ : Unit => .bool false) (fun _ => True) (fun _ => []) := by
  refine ctr_of e55 ?_
  unfold S55
  (try dsimp only [List.cons_append, List.nil_append, List.append]); repeat (first | refine oEq ?_ | refine oNe ?_ | refine oAdd (by omega) (by omega) ?_ | refine oSub (by omega) (by omega) ?_ | refine oMul (by omega) (by omega) ?_ | refine oCv (by omega) (by omega) ?_ | refine ent_O rfl ?_ | refine oL rfl ?_ | refine oS rfl rfl rfl rfl ?_ | (refine oN fun nb => ?_) | refine ent_true ?_ | refine ent_false ?_ | refine oA (by first | exact ent_undef | (refine oL rfl ?_; exact ent_Is)) ?_)
  exact ent_ret () (by simp) trivial (Shift.of_picks (by repeat (first | exact .nil | apply Picks.cons (by first | exact Pick.ro (by repeat (first | exact has_here | apply has_there)) | exact .per | ((repeat (first | exact Pick.here | apply Pick.there)); done) | (apply Pick.avO; (repeat (first | exact Pick.here | apply Pick.there)); done) | exact Pick.avL (by repeat (first | exact has_here | apply has_there))) | exact Picks.all _)))
theorem compare_fn (a b : Int) : Ctr Try.prog 41 [.int .u32 a, .int .u32 b] [] (fun _ : Unit => .int .i64 (cmp3 a b)) (fun _ => True) (fun _ => []) := by
  refine ctr_of e41 ?_
  unfold S41
  refine Ctr.use (isNaN_fn a) (by repeat (first | exact .nil | apply Picks.cons (by first | exact Pick.ro (by repeat (first | exact has_here | apply has_there)) | exact .per | ((repeat (first | exact Pick.here | apply Pick.there)); done) | (apply Pick.avO; (repeat (first | exact Pick.here | apply Pick.there)); done) | exact Pick.avL (by repeat (first | exact has_here | apply has_there))) | exact Picks.all _)) fun _ _ => ?_
  refine Ctr.use (isNaN_fn b) (by repeat (first | exact .nil | apply Picks.cons (by first | exact Pick.ro (by repeat (first | exact has_here | apply has_there)) | exact .per | ((repeat (first | exact Pick.here | apply Pick.there)); done) | (apply Pick.avO; (repeat (first | exact Pick.here | apply Pick.there)); done) | exact Pick.avL (by repeat (first | exact has_here | apply has_there))) | exact Picks.all _)) fun _ _ => ?_
  (try dsimp only [List.cons_append, List.nil_append])
  refine ent_false ?_
  refine ent_false ?_
  (try dsimp only [List.cons_append, List.nil_append, List.append]); repeat (first | refine oEq ?_ | refine oNe ?_ | refine oAdd (by omega) (by omega) ?_ | refine oSub (by omega) (by omega) ?_ | refine oMul (by omega) (by omega) ?_ | refine oCv (by omega) (by omega) ?_ | refine ent_O rfl ?_ | refine oL rfl ?_ | refine oS rfl rfl rfl rfl ?_ | (refine oN fun nb => ?_) | refine ent_true ?_ | refine ent_false ?_ | refine oA (by first | exact ent_undef | (refine oL rfl ?_; exact ent_Is)) ?_)
  refine oI (fun h => ?_) fun h => ?_
  · exact ent_ret () (by simp [cmp3, h]) trivial (Shift.of_picks (by repeat (first | exact .nil | apply Picks.cons (by first | exact Pick.ro (by repeat (first | exact has_here | apply has_there)) | exact .per | ((repeat (first | exact Pick.here | apply Pick.there)); done) | (apply Pick.avO; (repeat (first | exact Pick.here | apply Pick.there)); done) | exact Pick.avL (by repeat (first | exact has_here | apply has_there))) | exact Picks.all _)))
  (try dsimp only [List.cons_append, List.nil_append, List.append]); repeat (first | refine oEq ?_ | refine oNe ?_ | refine oAdd (by omega) (by omega) ?_ | refine oSub (by omega) (by omega) ?_ | refine oMul (by omega) (by omega) ?_ | refine oCv (by omega) (by omega) ?_ | refine ent_O rfl ?_ | refine oL rfl ?_ | refine oS rfl rfl rfl rfl ?_ | (refine oN fun nb => ?_) | refine ent_true ?_ | refine ent_false ?_ | refine oA (by first | exact ent_undef | (refine oL rfl ?_; exact ent_Is)) ?_)
  refine oI (fun h2 => ?_) fun h2 => ?_
  · exact ent_ret () (by simp only [cmp3]; rw [if_neg h, if_pos h2]) trivial (Shift.of_picks (by repeat (first | exact .nil | apply Picks.cons (by first | exact Pick.ro (by repeat (first | exact has_here | apply has_there)) | exact .per | ((repeat (first | exact Pick.here | apply Pick.there)); done) | (apply Pick.avO; (repeat (first | exact Pick.here | apply Pick.there)); done) | exact Pick.avL (by repeat (first | exact has_here | apply has_there))) | exact Picks.all _)))
  · exact ent_ret () (by simp only [cmp3]; rw [if_neg h, if_neg h2]) trivial (Shift.of_picks (by repeat (first | exact .nil | apply Picks.cons (by first | exact Pick.ro (by repeat (first | exact has_here | apply has_there)) | exact .per | ((repeat (first | exact Pick.here | apply Pick.there)); done) | (apply Pick.avO; (repeat (first | exact Pick.here | apply Pick.there)); done) | exact Pick.avL (by repeat (first | exact has_here | apply has_there))) | exact Picks.all _)))
theorem frameCmp_fn (x : Nat × AF) (t : Int) : Ctr Try.prog 40 [pt x.1, .int .u32 t] [FrE x] (fun _ : Unit => .int .i64 (cmp3 x.2.time t)) (fun _ => True) (fun _ => [FrE x]) := by
  refine ctr_of e40 ?_
  unfold S40
  refine Ctr.use (time_fn x.1 x.2) (by repeat (first | exact .nil | apply Picks.cons (by first | exact Pick.ro (by repeat (first | exact has_here | apply has_there)) | exact .per | ((repeat (first | exact Pick.here | apply Pick.there)); done) | (apply Pick.avO; (repeat (first | exact Pick.here | apply Pick.there)); done) | exact Pick.avL (by repeat (first | exact has_here | apply has_there))) | exact Picks.all _)) fun _ _ => ?_
  refine Ctr.use (compare_fn x.2.time t) (by repeat (first | exact .nil | apply Picks.cons (by first | exact Pick.ro (by repeat (first | exact has_here | apply has_there)) | exact .per | ((repeat (first | exact Pick.here | apply Pick.there)); done) | (apply Pick.avO; (repeat (first | exact Pick.here | apply Pick.there)); done) | exact Pick.avL (by repeat (first | exact has_here | apply has_there))) | exact Picks.all _)) fun _ _ => ?_
  exact ent_ret () rfl trivial (Shift.of_picks (by repeat (first | exact .nil | apply Picks.cons (by first | exact Pick.ro (by repeat (first | exact has_here | apply has_there)) | exact .per | ((repeat (first | exact Pick.here | apply Pick.there)); done) | (apply Pick.avO; (repeat (first | exact Pick.here | apply Pick.there)); done) | exact Pick.avL (by repeat (first | exact has_here | apply has_there))) | exact Picks.all _)))
theorem search_fn (v : Value) (ps : List (Nat × AF)) (t : Int) (hn : ps.length ≤ 100000) (hs : ps.Pairwise fun a b => a.2.time < b.2.time) :
    Ctr Try.prog 39 [v, .int .u32 t, .func (.func 40) #[] #[]] [Rw ptE v ps, Big FrE ps]
      (fun _ : Unit => .tuple #[.int .i64 (posT (fun x : Nat × AF => x.2.time) t ps), .bool (hit (fun x : Nat × AF => cmp3 x.2.time t) ps[posT (fun x : Nat × AF => x.2.time) t ps]?)])
      (fun _ => True) (fun _ => [Rw ptE v ps, Big FrE ps]) := by
  refine ctr_of e39 ?_
  have key : ∀ K : Value → Asn, Ent [Rw ptE v ps, Big FrE ps] (K (.tuple #[.int .i64 (posT (fun x : Nat × AF => x.2.time) t ps), .bool (hit (fun x : Nat × AF => cmp3 x.2.time t) ps[posT (fun x : Nat × AF => x.2.time) t ps]?)])) →
      Ent [Rw ptE v ps, Big FrE ps] (S39 Try.prog v (.int .u32 t) (.func (.func 40) #[] #[]) K) := fun K q =>
    bs_ok (P := Try.prog) (size := 1) (m := none) (f := ptE) (xs := ps) HasR.row rfl (by omega) (fun x => pt x.1) (fun _ => rfl) (fun x => cmp3 x.2.time t)
      (fun k y hk K q => by
        show Ent _ (Cl Try.prog 40 [pt y.1, .int .u32 t] K)
        refine Ctr.useAt (A := FrE) (frameCmp_fn y t) P1 hk fun _ _ => ?_
        exact Ent.perm (l' := [Rw ptE v ps, Big FrE ps]) (R := []) (by repeat (first | exact .nil | apply Picks.cons (by first | exact Pick.ro (by repeat (first | exact has_here | apply has_there)) | exact .per | ((repeat (first | exact Pick.here | apply Pick.there)); done) | (apply Pick.avO; (repeat (first | exact Pick.here | apply Pick.there)); done) | exact Pick.avL (by repeat (first | exact has_here | apply has_there))) | exact Picks.all _)) q)
      _ (posT_le _ t ps)
      (fun k y hk h => by have := posT_lo _ t ps k y hk h; simp only [cmp3]; rw [if_pos this]; decide)
      (fun k y hk h => by have := posT_hi _ t ps hs k y hk h; simp only [cmp3]; rw [if_neg (by omega)]; split <;> decide) q
  exact key _ (ent_ret () rfl trivial (Shift.of_picks (by repeat (first | exact .nil | apply Picks.cons (by first | exact Pick.ro (by repeat (first | exact has_here | apply has_there)) | exact .per | ((repeat (first | exact Pick.here | apply Pick.there)); done) | (apply Pick.avO; (repeat (first | exact Pick.here | apply Pick.there)); done) | exact Pick.avL (by repeat (first | exact has_here | apply has_there))) | exact Picks.all _))))
theorem insert_fn (v : Value) (ps : List (Nat × AF)) (i : Int) (x : Nat × AF) (bv : Nat) (h0 : 0 ≤ i) (h1 : i ≤ ps.length) (hn : ps.length ≤ 100000) :
    Ctr Try.prog 43 [v, .int .i64 i, .slice (some ⟨bv, 0, none⟩) 1 1] [Rw ptE v ps, cl bv (ptE x)] (fun v : Value => v) (fun _ => True) (fun v => [Rw ptE v (ps.take i.toNat ++ x :: ps.drop i.toNat)]) := by
  refine ctr_of e43 ?_
  have key : ∀ K : Value → Asn, (∀ v, Ent [Rw ptE v (ps.take i.toNat ++ x :: ps.drop i.toNat)] (K v)) →
      Ent [Rw ptE v ps, cl bv (ptE x)] (S43 Try.prog v (.int .i64 i) (.slice (some ⟨bv, 0, none⟩) 1 1) K) := fun K q =>
    ins_ok (P := Try.prog) (T := 63) (Ti := 3) (size := 1) (f := ptE) (fo := 56) (fr := 57) UndC.und UndC.und (InfC.inf (P := Try.prog) (t := 66)) rfl rfl (by decide) (by omega) h0 h1 P0 P0
      (fun p pv q => let ⟨i, hi, _⟩ := InfC.inf (P := Try.prog) (t := 66); cl_overlaps (t := 63) Try.func56 rfl rfl (by kernel_rfl) (by kernel_rfl) rfl UndC.und hi p pv q) q
  exact key _ fun v => ent_ret v (by rfl) (by trivial) (Shift.of_picks (by repeat (first | exact .nil | apply Picks.cons (by first | exact Pick.ro (by repeat (first | exact has_here | apply has_there)) | exact .per | ((repeat (first | exact Pick.here | apply Pick.there)); done) | (apply Pick.avO; (repeat (first | exact Pick.here | apply Pick.there)); done) | exact Pick.avL (by repeat (first | exact has_here | apply has_there))) | exact Picks.all _)))
end Go.Proofs.Ytndanmhgbfjinaa
namespace Go.Proofs.Ytndanmhgbfjinaa
open Go Go.Sl Go.Cd
attribute [local irreducible] Try.prog cl ro mp mpI clT RowP FrP Big
theorem sumH_append (a b : List AF) : sumH (a ++ b) = sumH a + sumH b := by
  induction a with
  | nil => simp [sumH]
  | cons F a ih => simp [sumH, ih, Nat.add_assoc]
theorem sumB_append (a b : List AF) : sumB (a ++ b) = sumB a + sumB b := by
  induction a with
  | nil => simp [sumB]
  | cons F a ih => simp [sumB, ih, Nat.add_assoc]
theorem cmp3_zero {a b : Int} : cmp3 a b = 0 ↔ a = b := by
  unfold cmp3
  split
  · omega
  · split <;> omega
theorem hit_iff (t : Int) (o : Option (Nat × AF)) : hit (fun x : Nat × AF => cmp3 x.2.time t) o = true ↔ ∃ x, o = some x ∧ x.2.time = t := by
  cases o with
  | none => simp [hit]
  | some x =>
    show decide (cmp3 x.2.time t = 0) = true ↔ _
    rw [decide_eq_true_eq, cmp3_zero]
    simp
def bufL (X : AB) (L : List AF) (v : Value) : List Value := bufR X.c L.length (sumH L) (sumB L) v X.hor X.pl X.dr X.ev
theorem frame_fn (b : Nat) (X : AB) (t count now : Int) (hl : X.L.length ≤ 10000) (hH : sumH X.L ≤ 1000000000) (hB : sumB X.L ≤ 70368744177664) (hs : X.L.Pairwise fun a b => a.time < b.time) :
    Ctr Try.prog 23 [pt b, .int .u32 t, .int .i64 count, .int .i64 now] [BufP b X] (fun x : (Value × List (Nat × AF)) × Nat => pt x.2)
      (fun x => x.1.2.map Prod.snd = (withT t count now X.L).1 ∧ ∃ F, x.1.2[(withT t count now X.L).2]? = some (x.2, F))
      (fun x => [cl b (bufL X (withT t count now X.L).1 x.1.1), Rw ptE x.1.1 x.1.2, Big FrE x.1.2]) := by
  refine ctr_of e23 ?_
  refine Ent.openX P0 BufP.open fun ⟨v, ps⟩ he => ?_
  unfold S23
  dsimp only at he ⊢
  have hpl : ps.length = X.L.length := by rw [← he, List.length_map]
  have hps : ps.Pairwise fun a b => a.2.time < b.2.time := by rw [← he, List.pairwise_map] at hs; exact hs
  have hpos : posT (fun x : Nat × AF => x.2.time) t ps = posT AF.time t X.L := by rw [← he, posT_map]
  have hk := posT_le AF.time t X.L
  (try dsimp only [List.cons_append, List.nil_append, List.append]); repeat (first | refine oEq ?_ | refine oNe ?_ | refine oAdd (by omega) (by omega) ?_ | refine oSub (by omega) (by omega) ?_ | refine oMul (by omega) (by omega) ?_ | refine oCv (by omega) (by omega) ?_ | refine ent_O rfl ?_ | refine oL rfl ?_ | refine oS rfl rfl rfl rfl ?_ | (refine oN fun nb => ?_) | refine ent_true ?_ | refine ent_false ?_ | refine oA (by first | exact ent_undef | (refine oL rfl ?_; exact ent_Is)) ?_)
  refine Ctr.use (search_fn v ps t (by omega) hps) (by repeat (first | exact .nil | apply Picks.cons (by first | exact Pick.ro (by repeat (first | exact has_here | apply has_there)) | exact .per | ((repeat (first | exact Pick.here | apply Pick.there)); done) | (apply Pick.avO; (repeat (first | exact Pick.here | apply Pick.there)); done) | exact Pick.avL (by repeat (first | exact has_here | apply has_there))) | exact Picks.all _)) fun _ _ => ?_
  (try dsimp only [List.cons_append, List.nil_append])
  rw [hpos]
  refine ent_O rfl ?_
  refine ent_O rfl ?_
  generalize hkk : posT AF.time t X.L = k at hk
  have hw2 : (withT t count now X.L).2 = k := by
    by_cases h : ∃ F, X.L[posT AF.time t X.L]? = some F ∧ F.time = t
    · obtain ⟨F, h1, h2⟩ := h; rw [withT_yes h1 h2]; exact hkk
    · rw [withT_no fun F h1 h2 => h ⟨F, h1, h2⟩]; exact hkk
  refine ent_VJ (X := Value × List (Nat × AF)) (fun _ => []) (fun x => x.2.map Prod.snd = (withT t count now X.L).1) (fun x => [cl b (bufL X (withT t count now X.L).1 x.1), Rw ptE x.1 x.2, Big FrE x.2]) ?_ ?_
  · refine ent_O rfl ?_
    refine ent_VB (fun hn => ?_) fun hy => ?_
    · have hno : ∀ F, X.L[posT AF.time t X.L]? = some F → F.time ≠ t := by
        intro F hF e
        rw [hkk] at hF
        have : hit (fun x : Nat × AF => cmp3 x.2.time t) ps[k]? = true := by
          rw [hit_iff]
          rw [← he, List.getElem?_map] at hF
          cases hp : ps[k]? with
          | none => rw [hp] at hF; cases hF
          | some x => rw [hp] at hF; simp at hF; exact ⟨x, rfl, by rw [hF]; exact e⟩
        rw [this] at hn; cases hn
      have hw := withT_no (count := count) (now := now) hno
      rw [hkk] at hw
      refine Ctr.use (new_fn t count now) (by repeat (first | exact .nil | apply Picks.cons (by first | exact Pick.ro (by repeat (first | exact has_here | apply has_there)) | exact .per | ((repeat (first | exact Pick.here | apply Pick.there)); done) | (apply Pick.avO; (repeat (first | exact Pick.here | apply Pick.there)); done) | exact Pick.avL (by repeat (first | exact has_here | apply has_there))) | exact Picks.all _)) fun p _ => ?_
      (try dsimp only [List.cons_append, List.nil_append, List.append]); repeat (first | refine oEq ?_ | refine oNe ?_ | refine oAdd (by omega) (by omega) ?_ | refine oSub (by omega) (by omega) ?_ | refine oMul (by omega) (by omega) ?_ | refine oCv (by omega) (by omega) ?_ | refine ent_O rfl ?_ | refine oL rfl ?_ | refine oS rfl rfl rfl rfl ?_ | (refine oN fun nb => ?_) | refine ent_true ?_ | refine ent_false ?_ | refine oA (by first | exact ent_undef | (refine oL rfl ?_; exact ent_Is)) ?_)
      refine ent_BS rfl fun nb => ?_
      refine Ctr.use (insert_fn v ps k (p, AF.new t count now) nb (by omega) (by omega) (by omega)) (by repeat (first | exact .nil | apply Picks.cons (by first | exact Pick.ro (by repeat (first | exact has_here | apply has_there)) | exact .per | ((repeat (first | exact Pick.here | apply Pick.there)); done) | (apply Pick.avO; (repeat (first | exact Pick.here | apply Pick.there)); done) | exact Pick.avL (by repeat (first | exact has_here | apply has_there))) | exact Picks.all _)) fun v' _ => ?_
      (try dsimp only [List.cons_append, List.nil_append])
      refine oSl v' fun base cap e => ?_
      subst e
      (try dsimp only [List.cons_append, List.nil_append, List.append]); repeat (first | refine oEq ?_ | refine oNe ?_ | refine oAdd (by omega) (by omega) ?_ | refine oSub (by omega) (by omega) ?_ | refine oMul (by omega) (by omega) ?_ | refine oCv (by omega) (by omega) ?_ | refine ent_O rfl ?_ | refine oL rfl ?_ | refine oS rfl rfl rfl rfl ?_ | (refine oN fun nb => ?_) | refine ent_true ?_ | refine ent_false ?_ | refine oA (by first | exact ent_undef | (refine oL rfl ?_; exact ent_Is)) ?_)
      have hnew : haveN (AF.new t count now).parts = 0 := haveN_replicate _
      have hnew2 : bytesN (AF.new t count now).parts = 0 := bytesN_replicate _
      refine Ctr.use (add_fn b p (AF.new t count now) X.c X.L.length (sumH X.L) (sumB X.L) _ X.hor X.pl X.dr X.ev 1 (by omega) (by omega) (by omega) (by simp only [AF.new, List.length_replicate]; omega) (by rw [hnew2]; omega) (.inl rfl)) (by repeat (first | exact .nil | apply Picks.cons (by first | exact Pick.ro (by repeat (first | exact has_here | apply has_there)) | exact .per | ((repeat (first | exact Pick.here | apply Pick.there)); done) | (apply Pick.avO; (repeat (first | exact Pick.here | apply Pick.there)); done) | exact Pick.avL (by repeat (first | exact has_here | apply has_there))) | exact Picks.all _)) fun _ _ => ?_
      (try dsimp only [List.cons_append, List.nil_append])
      rw [Int.toNat_natCast]
      refine Ent.bigPut (A := FrE) (xs := ps.take k ++ (p, AF.new t count now) :: ps.drop k) (p, AF.new t count now) (by repeat (first | exact .nil | apply Picks.cons (by first | exact Pick.ro (by repeat (first | exact has_here | apply has_there)) | exact .per | ((repeat (first | exact Pick.here | apply Pick.there)); done) | (apply Pick.avO; (repeat (first | exact Pick.here | apply Pick.there)); done) | exact Pick.avL (by repeat (first | exact has_here | apply has_there))) | exact Picks.all _)) (perm_ins ps k _) ?_
      have hc : bufL X (withT t count now X.L).1 (.slice base (ps.take k ++ (p, AF.new t count now) :: ps.drop k).length cap) =
          bufR X.c (X.L.length + 1) ((sumH X.L : Int) + 1 * haveN (AF.new t count now).parts) ((sumB X.L : Int) + 1 * bytesN (AF.new t count now).parts)
            (.slice base (ps.take k ++ (p, AF.new t count now) :: ps.drop k).length cap) X.hor X.pl X.dr X.ev := by
        rw [hw, hnew, hnew2]
        have e1 : sumH (X.L.take k ++ AF.new t count now :: X.L.drop k) = sumH X.L := by
          rw [sumH_append]; simp only [sumH, hnew, Nat.zero_add]; rw [← sumH_append, List.take_append_drop]
        have e2 : sumB (X.L.take k ++ AF.new t count now :: X.L.drop k) = sumB X.L := by
          rw [sumB_append]; simp only [sumB, hnew2, Nat.zero_add]; rw [← sumB_append, List.take_append_drop]
        have e3 : (X.L.take k ++ AF.new t count now :: X.L.drop k).length = X.L.length + 1 := by
          rw [List.length_append, List.length_take, List.length_cons, List.length_drop]; omega
        unfold bufL
        rw [e1, e2, e3]
        congr 1
      exact ent_join (.slice base (ps.take k ++ (p, AF.new t count now) :: ps.drop k).length cap, ps.take k ++ (p, AF.new t count now) :: ps.drop k) (by rfl) (by rw [hw, ← he]; simp [List.map_take, List.map_drop]) (by dsimp only; rw [hc]; exact (by repeat (first | exact .nil | apply Picks.cons (by first | exact Pick.ro (by repeat (first | exact has_here | apply has_there)) | exact .per | ((repeat (first | exact Pick.here | apply Pick.there)); done) | (apply Pick.avO; (repeat (first | exact Pick.here | apply Pick.there)); done) | exact Pick.avL (by repeat (first | exact has_here | apply has_there))) | exact Picks.all _)))
    · have hh : hit (fun x : Nat × AF => cmp3 x.2.time t) ps[k]? = true := by simpa using hy
      obtain ⟨x, hx, hxt⟩ := (hit_iff t _).1 hh
      have hw : withT t count now X.L = (X.L, k) := by
        have := withT_yes (count := count) (now := now) (L := X.L) (F := x.2) (t := t) (by rw [hkk, ← he, List.getElem?_map, hx]; rfl) hxt
        rw [hkk] at this; exact this
      exact ent_join (v, ps) (by rfl) (by rw [hw]; exact he) (by dsimp only; rw [hw]; exact (by repeat (first | exact .nil | apply Picks.cons (by first | exact Pick.ro (by repeat (first | exact has_here | apply has_there)) | exact .per | ((repeat (first | exact Pick.here | apply Pick.there)); done) | (apply Pick.avO; (repeat (first | exact Pick.here | apply Pick.there)); done) | exact Pick.avL (by repeat (first | exact has_here | apply has_there))) | exact Picks.all _)))
  · rintro ⟨v', ps'⟩ he' j
    dsimp only at he' ⊢
    obtain ⟨F, hF, hFt⟩ := withT_at t count now X.L
    rw [hw2, ← he', List.getElem?_map] at hF
    cases hp : ps'[k]? with
    | none => rw [hp] at hF; cases hF
    | some x =>
      obtain ⟨p, F'⟩ := x
      unfold bufL
      (try dsimp only [List.cons_append, List.nil_append, List.append]); repeat (first | refine oEq ?_ | refine oNe ?_ | refine oAdd (by omega) (by omega) ?_ | refine oSub (by omega) (by omega) ?_ | refine oMul (by omega) (by omega) ?_ | refine oCv (by omega) (by omega) ?_ | refine ent_O rfl ?_ | refine oL rfl ?_ | refine oS rfl rfl rfl rfl ?_ | (refine oN fun nb => ?_) | refine ent_true ?_ | refine ent_false ?_ | refine oA (by first | exact ent_undef | (refine oL rfl ?_; exact ent_Is)) ?_)
      refine oAt (f := ptE) (xs := ps') rfl (by omega) (by rw [Int.toNat_natCast]; exact hp) rfl ?_
      exact ent_ret ((v', ps'), p) (by rfl) ⟨he', F', by rw [hw2]; exact hp⟩ (Shift.of_picks (by repeat (first | exact .nil | apply Picks.cons (by first | exact Pick.ro (by repeat (first | exact has_here | apply has_there)) | exact .per | ((repeat (first | exact Pick.here | apply Pick.there)); done) | (apply Pick.avO; (repeat (first | exact Pick.here | apply Pick.there)); done) | exact Pick.avL (by repeat (first | exact has_here | apply has_there))) | exact Picks.all _)))
end Go.Proofs.Ytndanmhgbfjinaa
namespace Go.Proofs.Ytndanmhgbfjinaa
open Go Go.Sl Go.Cd
attribute [local irreducible] Try.prog cl ro mp mpI clT RowP FrP Big
theorem packets_fn (b : Nat) (X : AB) : Ctr Try.prog 20 [pt b] [BufP b X] (fun _ : Unit => .int .i64 (sumH X.L)) (fun _ => True) (fun _ => [BufP b X]) := by
  refine ctr_of e20 ?_
  refine Ent.openX P0 BufP.open fun ⟨v, ps⟩ he => ?_
  unfold S20
  dsimp only at he ⊢
  (try dsimp only [List.cons_append, List.nil_append, List.append]); repeat (first | refine oEq ?_ | refine oNe ?_ | refine oAdd (by omega) (by omega) ?_ | refine oSub (by omega) (by omega) ?_ | refine oMul (by omega) (by omega) ?_ | refine oCv (by omega) (by omega) ?_ | refine ent_O rfl ?_ | refine oL rfl ?_ | refine oS rfl rfl rfl rfl ?_ | (refine oN fun nb => ?_) | refine ent_true ?_ | refine ent_false ?_ | refine oA (by first | exact ent_undef | (refine oL rfl ?_; exact ent_Is)) ?_)
  exact ent_ret () rfl trivial (Shift.close (by repeat (first | exact .nil | apply Picks.cons (by first | exact Pick.ro (by repeat (first | exact has_here | apply has_there)) | exact .per | ((repeat (first | exact Pick.here | apply Pick.there)); done) | (apply Pick.avO; (repeat (first | exact Pick.here | apply Pick.there)); done) | exact Pick.avL (by repeat (first | exact has_here | apply has_there))) | exact Picks.all _)) (BufP.close (b := b) he))
theorem bbytes_fn (b : Nat) (X : AB) : Ctr Try.prog 21 [pt b] [BufP b X] (fun _ : Unit => .int .i64 (sumB X.L)) (fun _ => True) (fun _ => [BufP b X]) := by
  refine ctr_of e21 ?_
  refine Ent.openX P0 BufP.open fun ⟨v, ps⟩ he => ?_
  unfold S21
  dsimp only at he ⊢
  (try dsimp only [List.cons_append, List.nil_append, List.append]); repeat (first | refine oEq ?_ | refine oNe ?_ | refine oAdd (by omega) (by omega) ?_ | refine oSub (by omega) (by omega) ?_ | refine oMul (by omega) (by omega) ?_ | refine oCv (by omega) (by omega) ?_ | refine ent_O rfl ?_ | refine oL rfl ?_ | refine oS rfl rfl rfl rfl ?_ | (refine oN fun nb => ?_) | refine ent_true ?_ | refine ent_false ?_ | refine oA (by first | exact ent_undef | (refine oL rfl ?_; exact ent_Is)) ?_)
  exact ent_ret () rfl trivial (Shift.close (by repeat (first | exact .nil | apply Picks.cons (by first | exact Pick.ro (by repeat (first | exact has_here | apply has_there)) | exact .per | ((repeat (first | exact Pick.here | apply Pick.there)); done) | (apply Pick.avO; (repeat (first | exact Pick.here | apply Pick.there)); done) | exact Pick.avL (by repeat (first | exact has_here | apply has_there))) | exact Picks.all _)) (BufP.close (b := b) he))
theorem horizon_fn (b : Nat) (X : AB) : Ctr Try.prog 14 [pt b] [BufP b X] (fun _ : Unit => .int .i64 X.hor) (fun _ => True) (fun _ => [BufP b X]) := by
  refine ctr_of e14 ?_
  refine Ent.openX P0 BufP.open fun ⟨v, ps⟩ he => ?_
  unfold S14
  dsimp only at he ⊢
  (try dsimp only [List.cons_append, List.nil_append, List.append]); repeat (first | refine oEq ?_ | refine oNe ?_ | refine oAdd (by omega) (by omega) ?_ | refine oSub (by omega) (by omega) ?_ | refine oMul (by omega) (by omega) ?_ | refine oCv (by omega) (by omega) ?_ | refine ent_O rfl ?_ | refine oL rfl ?_ | refine oS rfl rfl rfl rfl ?_ | (refine oN fun nb => ?_) | refine ent_true ?_ | refine ent_false ?_ | refine oA (by first | exact ent_undef | (refine oL rfl ?_; exact ent_Is)) ?_)
  exact ent_ret () rfl trivial (Shift.close (by repeat (first | exact .nil | apply Picks.cons (by first | exact Pick.ro (by repeat (first | exact has_here | apply has_there)) | exact .per | ((repeat (first | exact Pick.here | apply Pick.there)); done) | (apply Pick.avO; (repeat (first | exact Pick.here | apply Pick.there)); done) | exact Pick.avL (by repeat (first | exact has_here | apply has_there))) | exact Picks.all _)) (BufP.close (b := b) he))
theorem counts_fn (b : Nat) (X : AB) : Ctr Try.prog 37 [pt b] [BufP b X] (fun _ : Unit => .tuple #[.int .i64 X.pl, .int .i64 X.dr, .int .i64 X.ev]) (fun _ => True) (fun _ => [BufP b X]) := by
  refine ctr_of e37 ?_
  refine Ent.openX P0 BufP.open fun ⟨v, ps⟩ he => ?_
  unfold S37
  dsimp only at he ⊢
  (try dsimp only [List.cons_append, List.nil_append, List.append]); repeat (first | refine oEq ?_ | refine oNe ?_ | refine oAdd (by omega) (by omega) ?_ | refine oSub (by omega) (by omega) ?_ | refine oMul (by omega) (by omega) ?_ | refine oCv (by omega) (by omega) ?_ | refine ent_O rfl ?_ | refine oL rfl ?_ | refine oS rfl rfl rfl rfl ?_ | (refine oN fun nb => ?_) | refine ent_true ?_ | refine ent_false ?_ | refine oA (by first | exact ent_undef | (refine oL rfl ?_; exact ent_Is)) ?_)
  exact ent_ret () rfl trivial (Shift.close (by repeat (first | exact .nil | apply Picks.cons (by first | exact Pick.ro (by repeat (first | exact has_here | apply has_there)) | exact .per | ((repeat (first | exact Pick.here | apply Pick.there)); done) | (apply Pick.avO; (repeat (first | exact Pick.here | apply Pick.there)); done) | exact Pick.avL (by repeat (first | exact has_here | apply has_there))) | exact Picks.all _)) (BufP.close (b := b) he))
theorem len_fn (b : Nat) (X : AB) : Ctr Try.prog 11 [pt b] [BufP b X] (fun _ : Unit => .int .i64 X.L.length) (fun _ => True) (fun _ => [BufP b X]) := by
  refine ctr_of e11 ?_
  refine Ent.openX P0 BufP.open fun ⟨v, ps⟩ he => ?_
  unfold S11
  dsimp only at he ⊢
  (try dsimp only [List.cons_append, List.nil_append, List.append]); repeat (first | refine oEq ?_ | refine oNe ?_ | refine oAdd (by omega) (by omega) ?_ | refine oSub (by omega) (by omega) ?_ | refine oMul (by omega) (by omega) ?_ | refine oCv (by omega) (by omega) ?_ | refine ent_O rfl ?_ | refine oL rfl ?_ | refine oS rfl rfl rfl rfl ?_ | (refine oN fun nb => ?_) | refine ent_true ?_ | refine ent_false ?_ | refine oA (by first | exact ent_undef | (refine oL rfl ?_; exact ent_Is)) ?_)
  refine oLenE (f := ptE) (xs := ps) rfl ?_
  have hl : ps.length = X.L.length := by rw [← he, List.length_map]
  rw [hl]
  exact ent_ret () rfl trivial (Shift.close (by repeat (first | exact .nil | apply Picks.cons (by first | exact Pick.ro (by repeat (first | exact has_here | apply has_there)) | exact .per | ((repeat (first | exact Pick.here | apply Pick.there)); done) | (apply Pick.avO; (repeat (first | exact Pick.here | apply Pick.there)); done) | exact Pick.avL (by repeat (first | exact has_here | apply has_there))) | exact Picks.all _)) (BufP.close (b := b) he))
def u32E (a : Int) : List Value := [.int .u32 a]
instance : Sized u32E 1 := ⟨fun _ => rfl, fun _ => rfl⟩
theorem times_fn (b : Nat) (X : AB) (hl : X.L.length ≤ 100000) : Ctr Try.prog 13 [pt b] [BufP b X] (fun v : Value => v) (fun _ => True) (fun v => [Rw u32E v (X.L.map AF.time), BufP b X]) := by
  refine ctr_of e13 ?_
  refine Ent.openX P0 BufP.open fun ⟨v, ps⟩ he => ?_
  unfold S13
  dsimp only at he ⊢
  have hpl : ps.length = X.L.length := by rw [← he, List.length_map]
  (try dsimp only [List.cons_append, List.nil_append, List.append]); repeat (first | refine oEq ?_ | refine oNe ?_ | refine oAdd (by omega) (by omega) ?_ | refine oSub (by omega) (by omega) ?_ | refine oMul (by omega) (by omega) ?_ | refine oCv (by omega) (by omega) ?_ | refine ent_O rfl ?_ | refine oL rfl ?_ | refine oS rfl rfl rfl rfl ?_ | (refine oN fun nb => ?_) | refine ent_true ?_ | refine ent_false ?_ | refine oA (by first | exact ent_undef | (refine oL rfl ?_; exact ent_Is)) ?_)
  refine oLenE (f := ptE) (xs := ps) rfl ?_
  refine oNil u32E ?_
  refine ent_VL (X := Nat × Value) (fun x => [x.2, .int .i64 x.1]) (fun x => x.1 ≤ ps.length) (fun x => ps.length - x.1) (fun x => [Rw u32E x.2 ((ps.take x.1).map fun p : Nat × AF => p.2.time)]) (0, .slice none 0 0) rfl (Nat.zero_le _) (by repeat (first | exact .nil | apply Picks.cons (by first | exact Pick.ro (by repeat (first | exact has_here | apply has_there)) | exact .per | ((repeat (first | exact Pick.here | apply Pick.there)); done) | (apply Pick.avO; (repeat (first | exact Pick.here | apply Pick.there)); done) | exact Pick.avL (by repeat (first | exact has_here | apply has_there))) | exact Picks.all _)) ?_
  rintro ⟨i, o⟩ hi j
  dsimp only [List.cons_append, List.nil_append] at hi ⊢
  refine ent_O rfl ?_
  refine oI (fun hlt => ?_) fun hge => ?_
  · have hlt' : i < ps.length := by omega
    have hx : ps[i]? = some ps[i] := List.getElem?_eq_getElem hlt'
    refine oAt (f := ptE) (xs := ps) rfl (by omega) (by show ps[((i : Nat) : Int).toNat]? = _; rw [Int.toNat_natCast]; exact hx) rfl ?_
    refine Ctr.useAt (A := FrE) (x := ps[i]) (i := i) (time_fn ps[i].1 ps[i].2) (by first | exact P0 | exact P1 | exact P2 | exact P3) hx fun _ _ => ?_
    refine ent_BS rfl fun nb => ?_
    refine oPush (s := o) (f := u32E) (xs := (ps.take i).map fun p : Nat × AF => p.2.time) (by rfl) (by trivial) (by rfl) (by rfl) ps[i].2.time (by rfl) (by decide) (by rw [List.length_map, List.length_take]; omega) fun o' => ?_
    (try dsimp only [List.cons_append, List.nil_append, List.append]); repeat (first | refine oEq ?_ | refine oNe ?_ | refine oAdd (by omega) (by omega) ?_ | refine oSub (by omega) (by omega) ?_ | refine oMul (by omega) (by omega) ?_ | refine oCv (by omega) (by omega) ?_ | refine ent_O rfl ?_ | refine oL rfl ?_ | refine oS rfl rfl rfl rfl ?_ | (refine oN fun nb => ?_) | refine ent_true ?_ | refine ent_false ?_ | refine oA (by first | exact ent_undef | (refine oL rfl ?_; exact ent_Is)) ?_)
    exact ent_again (i + 1, o') (by rfl) (by dsimp only; omega) (by dsimp only; omega) (by
      dsimp only
      rw [show (ps.take (i + 1)).map (fun p : Nat × AF => p.2.time) = (ps.take i).map (fun p : Nat × AF => p.2.time) ++ [ps[i].2.time] by rw [List.take_succ_eq_append_getElem hlt', List.map_append]; rfl]
      exact (by repeat (first | exact .nil | apply Picks.cons (by first | exact Pick.ro (by repeat (first | exact has_here | apply has_there)) | exact .per | ((repeat (first | exact Pick.here | apply Pick.there)); done) | (apply Pick.avO; (repeat (first | exact Pick.here | apply Pick.there)); done) | exact Pick.avL (by repeat (first | exact has_here | apply has_there))) | exact Picks.all _)))
  · have : i = ps.length := by omega
    subst this
    rw [List.take_length]
    have e : ps.map (fun p : Nat × AF => p.2.time) = X.L.map AF.time := by rw [← he, List.map_map]; rfl
    rw [e]
    refine Ent.close (by repeat (first | exact .nil | apply Picks.cons (by first | exact Pick.ro (by repeat (first | exact has_here | apply has_there)) | exact .per | ((repeat (first | exact Pick.here | apply Pick.there)); done) | (apply Pick.avO; (repeat (first | exact Pick.here | apply Pick.there)); done) | exact Pick.avL (by repeat (first | exact has_here | apply has_there))) | exact Picks.all _)) (BufP.close (b := b) he) ?_
    exact ent_ret o (by rfl) (by trivial) (Shift.of_picks (by repeat (first | exact .nil | apply Picks.cons (by first | exact Pick.ro (by repeat (first | exact has_here | apply has_there)) | exact .per | ((repeat (first | exact Pick.here | apply Pick.there)); done) | (apply Pick.avO; (repeat (first | exact Pick.here | apply Pick.there)); done) | exact Pick.avL (by repeat (first | exact has_here | apply has_there))) | exact Picks.all _)))
end Go.Proofs.Ytndanmhgbfjinaa
namespace Go.Sl
open Go Go.ChangeShapes Go.WideShapes Go.RowKit
def roW (W : World) : PH := fun b => (W.heap[b]?).map fun o => (false, o)
theorem roW_some {W : World} {b : Nat} {o : Obj} (h : W.heap[b]? = some o) : roW W b = some (false, o) := by simp [roW, h]
theorem roW_dj (W : World) : Dj (roW W) (roW W) := fun b x y hx hy => by
  rw [hx] at hy; cases hy
  refine ⟨rfl, ?_⟩
  simp only [roW, Option.map_eq_some_iff] at hx
  obtain ⟨o, _, rfl⟩ := hx; rfl
theorem roW_sat (W : World) : Sat (roW W) W := fun b x hx => by
  simp only [roW, Option.map_eq_some_iff] at hx
  obtain ⟨o, h, rfl⟩ := hx; exact h
structure KeptW (W W' : World) : Prop where
  os : W'.os = W.os
  out : W'.output = W.output
  blk : ∀ k, k < W.heap.size → W'.heap[k]? = W.heap[k]?
theorem KeptW.same {W W' : World} (h : KeptW W W') {p : MemPlace} (hp : p.block < W.heap.size) : W.sameAt W' p := by
  cases p with
  | cell b o => exact World.cell?_of_block (w := W) (h.blk b hp)
  | map b => exact h.blk b hp
theorem KeptW.but {W W' : World} (h : KeptW W W') (may : MemPlace → Prop) : W.keptBut W' may := by
  refine ⟨h.os, h.out, fun i hi => ?_⟩
  rw [h.blk i hi]
  split <;> simp_all
theorem calls_law {P : Program} {f : FuncId} {fn : Func} {args : Array Value} {W : World} {v0 : Value} (hf : P.funcs[f]? = some fn) (hname : (fn.name == "runtime.NumGoroutine") = false) (hb : fn.body.isNone = false)
    (h : Cl P f args.toList (fun v _ => v = v0) (roW W)) : Calls P f args W fun e W' => e = .returned v0 ∧ KeptW W W' := by
  have := h ⟨roW W, W.os, W.output⟩ W (roW_dj W) (roW_sat W) ⟨roW_sat W, rfl, rfl⟩
  have e0 : args.toList.toArray = args := by simp
  have hrun : (callFunc f args.toList.toArray).run P W = .ok (.enter f args) W := by
    rw [e0]
    simp only [callFunc, Sem.run_bind, program, Sem.run, Result.andThen_ok, hf, hname]
    cases hbd : fn.body with
    | none => rw [hbd] at hb; cases hb
    | some c => rfl
  rw [hrun] at this
  refine Calls.mono this ?_
  rintro e W' ⟨v, rfl, h', rfl, _, _, s, so, su⟩
  refine ⟨rfl, so, su, fun k hk => ?_⟩
  have : W.heap[k]? = some W.heap[k] := Array.getElem?_eq_getElem hk
  rw [this]; exact s k _ (roW_some this)
section
variable {H : Type} {enc : TypeId × Value → H} {P : Program}
theorem post_law {f : Func} {s : ChangeSpec} {apart fresh handsOn again : Bool} {W W' : World} {args : Array Value} {v : Value} {ds gs : List (DataW H)} {before pa pv : List MemPlace}
    (hW : DataW.Whole enc P f.params.toList s.vars apart W args.toList ds gs before)
    (hres : ∀ (b : Nat) (sp : Nat → Bool) (hd : Bool), DataW.TrodAll enc P W' b sp hd f.resultTypes.toList (v.resultList f.resultTypes.size) (s.fn H (ds ++ gs)).results [])
    (hargs : ∀ sp : Nat → Bool, (∀ p ∈ before, sp p.block = true) → DataW.TrodAll enc P W' 0 sp true f.params.toList args.toList (s.fn H (ds ++ gs)).args pa)
    (hvars : ∀ sp : Nat → Bool, (∀ p ∈ before, sp p.block = true) → DataW.TrodVars enc P W' sp s.vars (s.fn H (ds ++ gs)).vars pv)
    (hps : before = pa ++ pv) (hk : KeptW W W')
    (hok : ∀ (j : Nat) (t : TypeId) (r : Value), f.resultTypes[j]? = some t → (v.resultList f.resultTypes.size)[j]? = some r → Value.okWide P W' .any 0 t r) :
    s.post enc P f apart fresh handsOn again W args v W' := by
  have hlt := hW.lt
  have hold : ∀ p ∈ before, (fun b => decide (b < W.heap.size)) p.block = true := fun p hp => by simpa using hlt p hp
  refine ⟨ds, gs, before, [], pa, pv, hW, hres _ _ _, hargs _ hold, hvars _ hold, World.keptBut_mono (fun p hp => ⟨hp, ?_⟩) (hk.but (· ∈ before)), fun _ => ?_⟩
  · rw [hps, List.mem_append] at hp
    exact Or.inr hp
  · obtain ⟨_, _, _, _, _, hz, hn⟩ := hW
    refine ⟨hok, _, _, ([] ++ pa) ++ pv, ⟨[] ++ pa, pv, trodAll_append (hargs _ (fun _ _ => rfl)) (hres _ _ _), hvars _ (fun _ _ => rfl), rfl, ?_, ?_⟩, ?_⟩
    · intro b off hp
      have hp' : MemPlace.cell b off ∈ before := by rw [hps]; simpa using hp
      have hb : b < W.heap.size := hlt _ hp'
      have e : W'.frozen? ⟨b, off, none⟩ = W.frozen? ⟨b, off, none⟩ := World.frozen?_of_block (w := W) (hk.blk b hb)
      rw [e]
      exact hz b off hp'
    · intro ha
      have := hn ha
      rw [hps] at this
      simpa using this
    · intro p hp _
      rw [hps]
      simpa using hp
theorem trodAll_stays (hl : laidOutB P = true) {W W' : World} {sp : Nat → Bool} (hk : KeptW W W') : ∀ {ts : List TypeId} {vs : List Value} {ds : List (DataW H)} {ps : List MemPlace},
    (∀ t ∈ ts, P.readableRec t = true ∧ t < P.types.size) → DataW.TrodAll enc P W 0 (fun _ => true) true ts vs ds ps → (∀ p ∈ ps, sp p.block = true) → DataW.TrodAll enc P W' 0 sp true ts vs ds ps
  | [], [], [], _, _, h, _ => h
  | t :: ts, _ :: _, _ :: _, _, hr, ⟨p, q, h1, h2, e⟩, hs => by
    refine ⟨p, q, WideElems.Trod_stays hl (hr t (by simp)).1 (hr t (by simp)).2 h1 (fun x hx => hk.same ?_) (fun x hx => hs x (by rw [e]; exact List.mem_append_left _ hx)),
      trodAll_stays hl hk (fun t ht => hr t (by simp [ht])) h2 (fun x hx => hs x (by rw [e]; exact List.mem_append_right _ hx)), e⟩
    obtain ⟨n, hn⟩ := h1
    exact DataW.trod_lt n _ _ _ hn x hx
theorem law_contract {f : FuncId} {fn : Func} {s : ChangeSpec} {apart fresh handsOn again : Bool} {tb : TypeId}
    (hl : laidOutB P = true) (hf : P.funcs[f]? = some fn) (hname : (fn.name == "runtime.NumGoroutine") = false) (hb : fn.body.isNone = false) (hrt : fn.resultTypes = #[tb]) (htb : P.underlying tb = some .bool)
    (hpar : (fn.params.toList.all fun t => P.readableRec t && decide (t < P.types.size)) = true) (hvars : s.vars = [])
    (hfn : ∀ ds : List (DataW H), ds.length = fn.params.size → s.fn H ds = { results := [.lit (.bool true)], args := ds, vars := [] })
    (W : World) (base : Nat) (args : Array Value) (ds gs : List (DataW H)) (before : List MemPlace)
    (hval : ∀ (j : Nat) t v, fn.params[j]? = some t → args[j]? = some v → Value.okWide P W .any base t v)
    (hW : DataW.Whole enc P fn.params.toList s.vars apart W args.toList ds gs before)
    (law : ∀ p, DataW.TrodAll enc P W 0 (fun _ => true) true fn.params.toList args.toList ds p → Cl P f args.toList (fun v _ => v = .bool true) (roW W)) :
    Calls P f args W fun e W' => ∃ v, e = .returned v ∧ s.post enc P fn apart fresh handsOn again W args v W' := by
  have hW' := hW
  obtain ⟨p, q, hA, hV, rfl, hfz, _⟩ := hW
  rw [hvars] at hV
  obtain ⟨rfl, rfl⟩ : gs = [] ∧ q = [] := by
    cases gs with
    | nil => exact ⟨rfl, by simpa [DataW.TrodVars] using hV⟩
    | cons g gs => simp [DataW.TrodVars] at hV
  have hlen : ds.length = fn.params.size := by
    have key : ∀ {ts : List TypeId} {vs : List Value} {ds : List (DataW H)} {ps : List MemPlace}, DataW.TrodAll enc P W 0 (fun _ => true) true ts vs ds ps → ds.length = ts.length := by
      intro ts
      induction ts with
      | nil => intro vs ds ps h; obtain ⟨_, rfl, _⟩ := trodAll_nil h; rfl
      | cons t ts ih => intro vs ds ps h; obtain ⟨_, _, _, _, _, _, _, rfl, _, _, h2⟩ := trodAll_cons h; simp [ih h2]
    simpa using key hA
  have hs := hfn ds hlen
  refine (calls_law hf hname hb (law p hA)).mono fun e W' ⟨he, hk⟩ => ⟨_, he, ?_⟩
  have hres : ∀ (b : Nat) (sp : Nat → Bool) (hd : Bool), DataW.TrodAll enc P W' b sp hd fn.resultTypes.toList ((Value.bool true).resultList fn.resultTypes.size) (s.fn H (ds ++ [])).results [] := by
    intro b sp hd
    rw [List.append_nil, hs, hrt]
    exact trodAll_mk1 (shut_bool htb true)
  refine post_law (pa := p) (pv := []) hW' hres (fun sp hsp => ?_) (fun sp _ => ?_) rfl hk ?_
  · rw [List.append_nil, hs]
    refine trodAll_stays hl hk (fun t ht => ?_) hA (fun x hx => hsp x (by simpa using hx))
    have := List.all_eq_true.1 hpar t ht
    simpa using this
  · rw [hvars, List.append_nil, hs]; rfl
  · exact ok_one hrt rfl (okWide_bool_mk htb true)
end
section
variable {P : Program} {W : World}
def Rdg (P : Program) (W : World) (t : TypeId) (cs : List Value) : Prop := ∃ (H : Type) (enc : TypeId × Value → H) (fuel : Nat) (x : DataW H × List MemPlace), DataW.trod enc P W 0 (fun _ => true) true fuel t cs = some x
theorem Rdg.of {H : Type} {enc : TypeId × Value → H} {t : TypeId} {v : Value} {d : DataW H} {p : List MemPlace} (h : DataW.Trod enc P W 0 (fun _ => true) true t v d p) : Rdg P W t v.cells.toList :=
  let ⟨n, hn⟩ := h; ⟨H, enc, n, _, hn⟩
theorem Rdg.bool {t : TypeId} {cs : List Value} (ht : P.underlying t = some .bool) (h : Rdg P W t cs) : ∃ b, cs = [.bool b] := by
  obtain ⟨H, enc, n, x, h⟩ := h
  obtain ⟨b, e, _⟩ := DataW.trod_bool ht h; exact ⟨b, e⟩
theorem Rdg.int {t : TypeId} {k : IntKind} {cs : List Value} (ht : P.underlying t = some (.int k)) (h : Rdg P W t cs) : ∃ n, cs = [.int k n] ∧ k.min ≤ n ∧ n ≤ k.max := by
  obtain ⟨H, enc, n, x, h⟩ := h
  obtain ⟨b, e, _, w⟩ := DataW.trod_int ht h
  simp only [Lit.wf, Bool.and_eq_true, decide_eq_true_eq] at w
  exact ⟨b, e, w⟩
theorem Rdg.str {t : TypeId} {cs : List Value} (ht : P.underlying t = some .string) (h : Rdg P W t cs) : ∃ s : ByteArray, cs = [.string s] ∧ s.size ≤ 9223372036854775807 := by
  obtain ⟨H, enc, n, x, h⟩ := h
  obtain ⟨s, e, _, w⟩ := DataW.trod_string ht h
  exact ⟨s, e, w⟩
theorem Rdg.struct {t : TypeId} {fs : Array Field} {cs : List Value} (ht : P.underlying t = some (.struct fs)) (h : Rdg P W t cs) :
    cs.length = P.cellsOf t ∧ ∀ (i : Nat) (f : Field), fs[i]? = some f → Rdg P W f.type ((cs.drop f.offset).take (P.cellsOf f.type)) := by
  obtain ⟨H, enc, n, x, h⟩ := h
  obtain ⟨xs, m, _, _, hl, hs, hf⟩ := DataW.trod_struct ht h
  refine ⟨hl, fun i f hi => ?_⟩
  have hlt : i < xs.length := by rw [hs]; exact (Array.getElem?_eq_some_iff.1 hi).1
  exact ⟨H, enc, m, xs[i], by rw [hf i f hi]; exact List.getElem?_eq_getElem hlt⟩
theorem addr_add_add (a : Addr) (m n : Nat) : (a.add m).add n = a.add (m + n) := by
  unfold Addr.add
  by_cases hm : m = 0 <;> by_cases hn : n = 0 <;> simp [hm, hn, Nat.add_assoc]
theorem cell_none {w : World} {a : Addr} {v : Value} (h : w.cell? a = some v) : ∃ c e fz, w.heap[a.block]? = some (.cells c e fz) ∧ a.spot = none ∧ c[a.off]? = some v := by
  unfold World.cell? at h
  split at h
  · rename_i c e fz hb
    by_cases hs : a.spot.isSome = true
    · rw [if_pos hs] at h; cases h
    · rw [if_neg hs] at h
      exact ⟨c, e, fz, hb, by cases ha : a.spot <;> simp_all, h⟩
  · cases h
theorem Rdg.slice {t e : TypeId} {cs : List Value} (ht : P.underlying t = some (.slice e)) (hp : 0 < P.cellsOf e) (h : Rdg P W t cs) :
    ∃ (v : Value) (rows : List (List Value)), cs = [v] ∧ rows.length ≤ 9223372036854775807 ∧ (∀ r ∈ rows, r.length = P.cellsOf e ∧ Rdg P W e r) ∧ RoRow (P.cellsOf e) v rows.length rows.flatten (roW W) := by
  obtain ⟨H, enc, n, x, h⟩ := h
  rcases DataW.trod_slice ht h with ⟨rfl, _⟩ | ⟨a, len, cap, elems, rest, m, _, rfl, _, _, hlc, hcap, hel, hg, _⟩
  · exact ⟨_, [], rfl, by decide, by simp, .inl ⟨.nil, rfl, rfl⟩⟩
  generalize hz : P.cellsOf e = z at *
  have key : ∀ k, k ≤ len → ∃ rows : List (List Value), rows.length = k ∧ (∀ r ∈ rows, r.length = z ∧ Rdg P W e r) ∧ ∀ i, i < k * z → W.cell? (a.add i) = rows.flatten[i]? := by
    intro k
    induction k with
    | zero => intro _; exact ⟨[], rfl, by simp, fun i hi => by omega⟩
    | succ k ih =>
      intro hk
      obtain ⟨rows, h1, h2, h3⟩ := ih (by omega)
      have hgk := hg k (by omega)
      have hlt : k < elems.length := by omega
      rw [List.getElem?_eq_getElem hlt, Option.bind_eq_some_iff] at hgk
      obtain ⟨r, hr, htr⟩ := hgk
      obtain ⟨_, hrl, hrc⟩ := World.cells?_some hr
      have hfl : rows.flatten.length = k * z := by
        have : ∀ rows : List (List Value), (∀ r ∈ rows, r.length = z) → rows.flatten.length = rows.length * z := by
          intro rows
          induction rows with
          | nil => intro _; simp
          | cons r rows ih => intro h; simp only [List.flatten_cons, List.length_append, List.length_cons, h r (by simp), ih (fun x hx => h x (by simp [hx])), Nat.succ_mul]; omega
        rw [this rows (fun r hr => (h2 r hr).1), h1]
      refine ⟨rows ++ [r], by simp [h1], fun r' hr' => ?_, fun i hi => ?_⟩
      · rcases List.mem_append.1 hr' with h | h
        · exact h2 r' h
        · simp at h; subst h; exact ⟨hrl, H, enc, m, _, htr⟩
      · rw [List.flatten_append]
        by_cases hik : i < k * z
        · rw [List.getElem?_append_left (by omega)]; exact h3 i hik
        · rw [List.getElem?_append_right (by omega), hfl]
          rw [Nat.succ_mul] at hi
          have hrl' : r.length = z := hrl
          have := hrc (i - k * z) (by omega)
          simp only [List.flatten_cons, List.flatten_nil, List.append_nil]
          rw [← this]
          rw [addr_add_add]
          congr 2; omega
  obtain ⟨rows, h1, h2, h3⟩ := key len (Nat.le_refl _)
  refine ⟨_, rows, rfl, by rw [h1]; exact Nat.le_trans hlc hcap, h2, ?_⟩
  have hfl : rows.flatten.length = len * z := by
    have : ∀ rows : List (List Value), (∀ r ∈ rows, r.length = z) → rows.flatten.length = rows.length * z := by
      intro rows
      induction rows with
      | nil => intro _; simp
      | cons r rows ih => intro h; simp only [List.flatten_cons, List.length_append, List.length_cons, h r (by simp), ih (fun x hx => h x (by simp [hx])), Nat.succ_mul]; omega
    rw [this rows (fun r hr => (h2 r hr).1), h1]
  rw [h1]
  by_cases h0 : len = 0
  · subst h0
    obtain rfl : rows = [] := List.length_eq_zero_iff.1 h1
    exact .inl ⟨⟨some a, cap, rfl, fun h => by cases h⟩, rfl, rfl⟩
  have hpos : 0 < len * z := Nat.mul_pos (by omega) hp
  have hc0 := h3 0 hpos
  rw [List.getElem?_eq_getElem (by omega)] at hc0
  obtain ⟨ab, ao, asp⟩ := a
  obtain ⟨c, e', fz, hb, hsp, _⟩ := cell_none hc0
  have hsp' : asp = none := hsp
  subst hsp'
  have hb' : W.heap[ab]? = some (.cells c e' fz) := hb
  have hcell : ∀ i, i < len * z → c[ao + i]? = rows.flatten[i]? := by
    intro i hi
    rw [← h3 i hi, add_off]
    simp [World.cell?, hb']
  have hle : ao + len * z ≤ c.size := by
    have := hcell (len * z - 1) (by omega)
    rw [List.getElem?_eq_getElem (by omega)] at this
    have := (Array.getElem?_eq_some_iff.1 this).1
    omega
  have hsplit : c.toList = c.toList.take ao ++ rows.flatten ++ c.toList.drop (ao + len * z) := by
    have e1 : (c.toList.drop ao).take (len * z) = rows.flatten := by
      apply List.ext_getElem?
      intro i
      by_cases hi : i < len * z
      · rw [List.getElem?_take_of_lt hi, List.getElem?_drop, ← hcell i hi]; simp
      · rw [List.getElem?_eq_none (by rw [List.length_take]; omega), List.getElem?_eq_none (by omega)]
    rw [← e1, List.append_assoc]
    have : (c.toList.drop ao).take (len * z) ++ c.toList.drop (ao + len * z) = c.toList.drop ao := by
      rw [← List.drop_drop, List.take_append_drop]
    rw [this, List.take_append_drop]
  refine .inr ⟨ab, ao, cap, c.toList.take ao, c.toList.drop (ao + len * z), e', fz, rfl, ?_, ?_, hfl, hlc⟩
  · rw [← hsplit]; exact roW_some hb'
  · rw [List.length_take, Array.length_toList]; omega
end
end Go.Sl
namespace Go.Sl
open Go
def roPart (h : PH) : PH := fun b => match h b with | some (false, o) => some (false, o) | _ => none
theorem roPart_some {h : PH} {b : Nat} {x : Bool × Obj} (e : roPart h b = some x) : h b = some x ∧ x.1 = false := by
  unfold roPart at e
  split at e
  · rename_i o ho; cases e; exact ⟨ho, rfl⟩
  · cases e
theorem roPart_of {h : PH} {b : Nat} {o : Obj} (e : h b = some (false, o)) : roPart h b = some (false, o) := by simp [roPart, e]
theorem roPart_le (h : PH) : Le (roPart h) h := fun _ _ e => (roPart_some e).1
theorem roPart_dj (h : PH) : Dj h (roPart h) := fun b x y hx hy => by
  obtain ⟨a, f⟩ := roPart_some hy
  rw [hx] at a; cases a; exact ⟨rfl, f⟩
class RoA (A : Asn) : Prop where
  mono : ∀ {h k : PH}, Le h k → A h → A k
  ro : ∀ {h : PH}, A h → A (roPart h)
instance (priority := 500) {A : Asn} [r : RoA A] : Per A := ⟨fun h a => ⟨roPart h, roPart_le h, fun _ _ e => (roPart_some e).2, r.ro a⟩⟩
instance {p : Prop} : RoA (fun _ => p) := ⟨fun _ a => a, fun a => a⟩
instance {A B : Asn} [a : RoA A] [b : RoA B] : RoA (fun h => A h ∧ B h) := ⟨fun l x => ⟨a.mono l x.1, b.mono l x.2⟩, fun x => ⟨a.ro x.1, b.ro x.2⟩⟩
instance {X : Type} {A : X → Asn} [a : ∀ x, RoA (A x)] : RoA (fun h => ∃ x, A x h) := ⟨fun l ⟨x, y⟩ => ⟨x, (a x).mono l y⟩, fun ⟨x, y⟩ => ⟨x, (a x).ro y⟩⟩
instance {X : Type} {p : X → Prop} {A : X → Asn} [a : ∀ x, RoA (A x)] : RoA (fun h => ∀ x, p x → A x h) := ⟨fun l y x hx => (a x).mono l (y x hx), fun y x hx => (a x).ro (y x hx)⟩
instance {b : Nat} {cs : List Value} : RoA (ro b cs) := ⟨fun l ⟨e, fz, hb⟩ => ⟨e, fz, l _ _ hb⟩, fun ⟨e, fz, hb⟩ => ⟨e, fz, roPart_of hb⟩⟩
instance {size : Nat} {v : Value} {n : Nat} {cs : List Value} : RoA (RoRow size v n cs) where
  mono l a := by
    rcases a with a | ⟨b, off, cap, pre, post, e, fz, h1, hb, h2⟩
    · exact .inl a
    · exact .inr ⟨b, off, cap, pre, post, e, fz, h1, l _ _ hb, h2⟩
  ro a := by
    rcases a with a | ⟨b, off, cap, pre, post, e, fz, h1, hb, h2⟩
    · exact .inl a
    · exact .inr ⟨b, off, cap, pre, post, e, fz, h1, roPart_of hb, h2⟩
structure Dt (α : Type) (size : Nat) where
  rep : α → List Value → Asn
  ro : ∀ x cs, RoA (rep x cs)
  len : ∀ {x cs h}, rep x cs h → cs.length = size
  ones : ∀ {x cs h}, rep x cs h → cs.all one = true
instance {α : Type} {size : Nat} {D : Dt α size} {x : α} {cs : List Value} : RoA (D.rep x cs) := D.ro x cs
def Dt.of {α : Type} {size : Nat} (f : α → List Value) (h1 : ∀ x, (f x).length = size) (h2 : ∀ x, (f x).all one = true) : Dt α size :=
  ⟨fun x cs _ => cs = f x, fun _ _ => inferInstance, fun e => by rw [e]; exact h1 _, fun e => by rw [e]; exact h2 _⟩
structure El (α : Type) (size : Nat) where
  x : α
  cs : List Value
  len : cs.length = size
  ones : cs.all one = true
instance {α : Type} {size : Nat} : Sized (fun e : El α size => e.cs) size := ⟨fun e => e.len, fun e => e.ones⟩
abbrev elF {α : Type} {size : Nat} : El α size → List Value := fun e => e.cs
def AllR {α : Type} {size : Nat} (D : Dt α size) (es : List (El α size)) : Asn := fun h => ∀ e, e ∈ es → D.rep e.x e.cs h
instance {α : Type} {size : Nat} {D : Dt α size} {es : List (El α size)} : RoA (AllR D es) := ⟨fun l a e he => (D.ro _ _).mono l (a e he), fun a e he => (D.ro _ _).ro (a e he)⟩
def LV {α : Type} {size : Nat} (D : Dt α size) (v : Value) (xs : List α) : Asn := fun h => ∃ es : List (El α size), es.map El.x = xs ∧ RoRow size v es.length (flat elF es) h ∧ AllR D es h
def OV {α : Type} {size : Nat} (D : Dt α size) (v : Value) (xs : List α) : Asn := fun h => ∃ es : List (El α size), es.map El.x = xs ∧ Row size v es.length (flat elF es) h ∧ AllR D es h
instance {α : Type} {size : Nat} {D : Dt α size} {v : Value} {xs : List α} : RoA (LV D v xs) where
  mono l := fun ⟨es, e, r, a⟩ => ⟨es, e, RoA.mono l r, RoA.mono l a⟩
  ro := fun ⟨es, e, r, a⟩ => ⟨es, e, RoA.ro r, RoA.ro a⟩
def Dt.list {α : Type} {size : Nat} (D : Dt α size) : Dt (List α) 1 :=
  ⟨fun xs cs h => ∃ v, cs = [v] ∧ one v = true ∧ LV D v xs h, fun _ _ => inferInstance, fun ⟨v, e, _⟩ => by rw [e]; rfl, fun ⟨v, e, o, _⟩ => by rw [e]; simp [o]⟩
section
variable {P : Program} {l R : List Asn} {K : Value → Asn} {α : Type} {size : Nat}
theorem one_of_row {n : Nat} {v : Value} {cs : List Value} {h : PH} (r : RoRow size v n cs h) : one v = true := by
  rcases r with ⟨⟨_, _, rfl, _⟩, _⟩ | ⟨_, _, _, _, _, _, _, rfl, _⟩ <;> rfl
theorem rep_list {D : Dt α size} {v : Value} {xs : List α} {h : PH} (a : LV D v xs h) : D.list.rep xs [v] h := by
  obtain ⟨es, e, r, q⟩ := a
  exact ⟨v, rfl, one_of_row r, es, e, r, q⟩
theorem Star.dupRo {A : Asn} {h : PH} (a : A h) [r : RoA A] {l : List Asn} (s : Star l h) : Star (A :: l) h := ⟨roPart h, h, (roPart_dj h).symm, Le.un (roPart_le h) (Le.refl h), r.ro a, s⟩
theorem star1 {A : Asn} {h : PH} (a : A h) : Star [A] h := ⟨h, emp, Dj.emp h, by rw [un_emp]; exact Le.refl h, a, trivial⟩
theorem Ent.add {φ A : Asn} [r : RoA A] (a : ∀ h, Star l h → A h) (e : Ent (A :: l) φ) : Ent l φ := fun h s => e h (Star.dupRo (a h s) s)
theorem Ent.pure {φ : Asn} {p : Prop} (e : p → Ent l φ) : Ent ((fun _ => p) :: l) φ := fun h ⟨_, _, d, le, hp, r⟩ => e hp h (r.mono ((Le.right d).trans le))
theorem Ent.of {φ : Asn} {p : Prop} (hp : ∀ h, Star l h → p) (e : p → Ent l φ) : Ent l φ := fun h s => e (hp h s) h s
theorem has_here {A : Asn} [r : RoA A] : ∀ h, Star (A :: R) h → A h := fun h ⟨_, _, _, le, a, _⟩ => r.mono ((Le.left _ _).trans le) a
theorem has_there {A B : Asn} [r : RoA A] (x : ∀ h, Star R h → A h) : ∀ h, Star (B :: R) h → A h := fun h ⟨_, h2, d, le, _, s⟩ => r.mono ((Le.right d).trans le) (x h2 s)
theorem OV.open {D : Dt α size} {v : Value} {xs : List α} (h : PH) (a : OV D v xs h) : ∃ es : List (El α size), es.map El.x = xs ∧ Star [Rw elF v es, AllR D es] h :=
  let ⟨es, e, r, q⟩ := a
  ⟨es, e, h, roPart h, roPart_dj h, Le.un (Le.refl h) (roPart_le h), r, star1 (RoA.ro q)⟩
theorem RowP.up {p : TypeId → Prop} {n : Nat} {v : Value} {cs : List Value} {h k : PH} (le : Le h k) (a : RowP p size v n cs h) : RowP p size v n cs k := by
  rcases a with a | ⟨b, cap, post, e, a1, a2, a3⟩
  · exact .inl a
  · exact .inr ⟨b, cap, post, e, a1, le _ _ a2, a3⟩
theorem OV.close {D : Dt α size} {v : Value} {es : List (El α size)} {xs : List α} (e : es.map El.x = xs) (h : PH) (s : Star [Rw elF v es, AllR D es] h) : OV D v xs h := by
  obtain ⟨h1, h2, d, le, a, k1, k2, d', le', b, _⟩ := s
  exact ⟨es, e, RowP.up ((Le.left _ _).trans le) a, RoA.mono (((Le.left _ _).trans le').trans ((Le.right d).trans le)) b⟩
theorem OV.up {D : Dt α size} {v : Value} {xs : List α} {h k : PH} (le : Le h k) (a : OV D v xs h) : OV D v xs k := let ⟨es, e, r, q⟩ := a; ⟨es, e, RowP.up le r, RoA.mono le q⟩
theorem Pick.ro {A : Asn} (x : ∀ h, Star l h → A h) [RoA A] : Pick l A l := fun h s => Star.dupRo (x h s) s
def HasD (l : List Asn) (D : Dt α size) (v : Value) (xs : List α) : Prop := ∀ h, Star l h → LV D v xs h ∨ OV D v xs h
class HasDC (l : List Asn) (v : Value) {α : outParam Type} {size : outParam Nat} (D : outParam (Dt α size)) (xs : outParam (List α)) : Prop where has : HasD l D v xs
instance (priority := 1100) {D : Dt α size} {v : Value} {xs : List α} : HasDC (LV D v xs :: R) v D xs := ⟨fun h s => .inl (has_here h s)⟩
instance (priority := 1100) {D : Dt α size} {v : Value} {xs : List α} : HasDC (OV D v xs :: R) v D xs := ⟨fun h ⟨_, _, _, le, a, _⟩ => .inr (a.up ((Le.left _ _).trans le))⟩
instance {A : Asn} {D : Dt α size} {v : Value} {xs : List α} [x : HasDC R v D xs] : HasDC (A :: R) v D xs :=
  ⟨fun h ⟨_, h2, d, le, _, s⟩ => (x.has h2 s).imp (fun a => RoA.mono ((Le.right d).trans le) a) (fun a => a.up ((Le.right d).trans le))⟩
class PkOC (l : List Asn) (v : Value) {α : outParam Type} {size : outParam Nat} (D : outParam (Dt α size)) (xs : outParam (List α)) (R : outParam (List Asn)) : Prop where pick : Pick l (OV D v xs) R
instance (priority := 1100) {D : Dt α size} {v : Value} {xs : List α} : PkOC (OV D v xs :: R) v D xs R := ⟨.here⟩
instance {A : Asn} {D : Dt α size} {v : Value} {xs : List α} {S : List Asn} [x : PkOC R v D xs S] : PkOC (A :: R) v D xs (A :: S) := ⟨.there x.pick⟩
theorem HasD.row {D : Dt α size} {v : Value} {xs : List α} (x : HasD l D v xs) {h : PH} (s : Star l h) : ∃ es : List (El α size), es.map El.x = xs ∧ AllR D es h ∧
    ((Z0 v ∧ es.length = 0 ∧ flat elF es = []) ∨ ∃ b off cap pre post t e fz, v = .slice (some ⟨b, off, none⟩) es.length cap ∧ h b = some (t, .cells (pre ++ flat elF es ++ post).toArray e fz) ∧ pre.length = off ∧ (flat elF es).length = es.length * size ∧ es.length ≤ cap) := by
  rcases x h s with ⟨es, e, r, q⟩ | ⟨es, e, r, q⟩
  · exact ⟨es, e, q, HasR.ro h (Star.dupRo (A := RoRow size v es.length (flat elF es)) r s)⟩
  · exact ⟨es, e, q, HasR.row h (R := []) (star1 r)⟩
def RdK (cs : List Value) (o : Nat) (m : Option Nat) (K : Value → Asn) : Asn := fun h => ∃ u, rdV cs o m = some u ∧ K u h
theorem rdk {cs : List Value} {o : Nat} {m : Option Nat} {u : Value} (e : rdV cs o m = some u) (q : Ent l (K u)) : Ent l (RdK cs o m K) := fun h s => ⟨u, e, q h s⟩
theorem HasR.one_h {n : Nat} {v : Value} {cs : List Value} {h : PH} (r : (Z0 v ∧ n = 0 ∧ cs = []) ∨ ∃ b off cap pre post t e fz, v = .slice (some ⟨b, off, none⟩) n cap ∧ h b = some (t, .cells (pre ++ cs ++ post).toArray e fz) ∧ pre.length = off ∧ cs.length = n * size ∧ n ≤ cap) :
    HasR [fun k => Le h k] size v n cs := fun k ⟨_, _, _, le, a, _⟩ => by
  rcases r with r | ⟨b, off, cap, pre, post, t, e, fz, h1, hb, h2⟩
  · exact .inl r
  · exact .inr ⟨b, off, cap, pre, post, t, e, fz, h1, le _ _ (un_some_left (a _ _ hb)), h2⟩
theorem oAtD {D : Dt α size} {v : Value} {xs : List α} [x : HasDC l v D xs] {k : IntKind} {i : Int} {m : Option Nat} (n : Nat) (hi : i = n) (h2 : n < xs.length)
    (q : ∀ y cs, xs[n]? = some y → Ent (D.rep y cs :: l) (RdK cs 0 m K)) : Ent l (O (idxV size v (.int k i)) fun a => Ld m a K) := fun h s => by
  obtain ⟨es, he, ha, r⟩ := x.has.row s
  have hl : n < es.length := by rw [← he, List.length_map] at h2; exact h2
  have hx : xs[n]? = some es[n].x := by rw [← he, List.getElem?_map, List.getElem?_eq_getElem hl]; rfl
  obtain ⟨u, hu, ku⟩ := q es[n].x es[n].cs hx h (Star.dupRo (ha _ (List.getElem_mem hl)) s)
  haveI : HasRC [fun k => Le h k] v size es.length (flat elF es) := ⟨HasR.one_h r⟩
  have := oIxL (l := [fun k => Le h k]) (v := v) (k := k) (i := i) (m := m) (u := u) (K := fun u' k' => u' = u) (by omega) (by omega) (by
    have := rd_fld (f := elF) (size := size) (l := es) (i := n) (o := 0) (m := m) (x := es[n]) (v := u) (List.getElem?_eq_getElem hl) hu
    simpa [hi] using this) (fun _ _ => rfl) h (star1 (Le.refl h))
  obtain ⟨a, ea, b, off, t, c, e, fz, v', h5, h6, h7, h8⟩ := this
  exact ⟨a, ea, b, off, t, c, e, fz, v', h5, h6, h7, by rw [h8]; exact ku⟩
theorem oAtFD {D : Dt α size} {v : Value} {xs : List α} [x : HasDC l v D xs] {k : IntKind} {i : Int} {m : Option Nat} {o : Nat} (n : Nat) (hi : i = n) (h2 : n < xs.length)
    (q : ∀ y cs, xs[n]? = some y → Ent (D.rep y cs :: l) (RdK cs o m K)) : Ent l (O (idxV size v (.int k i)) fun a => O (addV o a) fun c => Ld m c K) := fun h s => by
  obtain ⟨es, he, ha, r⟩ := x.has.row s
  have hl : n < es.length := by rw [← he, List.length_map] at h2; exact h2
  have hx : xs[n]? = some es[n].x := by rw [← he, List.getElem?_map, List.getElem?_eq_getElem hl]; rfl
  obtain ⟨u, hu, ku⟩ := q es[n].x es[n].cs hx h (Star.dupRo (ha _ (List.getElem_mem hl)) s)
  haveI : HasRC [fun k => Le h k] v size es.length (flat elF es) := ⟨HasR.one_h r⟩
  have := oIxFL (l := [fun k => Le h k]) (v := v) (k := k) (i := i) (m := m) (u := u) (o := o) (K := fun u' k' => u' = u) (by omega) (by omega) (by
    have := rd_fld (f := elF) (size := size) (l := es) (i := n) (o := o) (m := m) (x := es[n]) (v := u) (List.getElem?_eq_getElem hl) hu
    simpa [hi] using this) (fun _ _ => rfl) h (star1 (Le.refl h))
  obtain ⟨a, ea, c', ec, b, off, t, c, e, fz, v', h5, h6, h7, h8⟩ := this
  exact ⟨a, ea, c', ec, b, off, t, c, e, fz, v', h5, h6, h7, by rw [h8]; exact ku⟩
theorem oAtP {f : α → List Value} {g1 : ∀ x, (f x).length = size} {g2 : ∀ x, (f x).all one = true} {v : Value} {xs : List α} [x : HasDC l v (Dt.of f g1 g2) xs] {k : IntKind} {i : Int} {m : Option Nat} (n : Nat) (hi : i = n) (h2 : n < xs.length)
    (q : ∀ y, xs[n]? = some y → Ent l (RdK (f y) 0 m K)) : Ent l (O (idxV size v (.int k i)) fun a => Ld m a K) :=
  oAtD n hi h2 fun y cs hy => Ent.pure fun e => by subst e; exact q y hy
theorem oAtFP {f : α → List Value} {g1 : ∀ x, (f x).length = size} {g2 : ∀ x, (f x).all one = true} {v : Value} {xs : List α} [x : HasDC l v (Dt.of f g1 g2) xs] {k : IntKind} {i : Int} {m : Option Nat} {o : Nat} (n : Nat) (hi : i = n) (h2 : n < xs.length)
    (q : ∀ y, xs[n]? = some y → Ent l (RdK (f y) o m K)) : Ent l (O (idxV size v (.int k i)) fun a => O (addV o a) fun c => Ld m c K) :=
  oAtFD n hi h2 fun y cs hy => Ent.pure fun e => by subst e; exact q y hy
theorem oLenD {D : Dt α size} {v : Value} {xs : List α} [x : HasDC l v D xs] (q : Ent l (K (.int .i64 xs.length))) : Ent l (O (lenL v) K) := fun h s => by
  obtain ⟨es, he, ha, r⟩ := x.has.row s
  have hl := (HasR.len (HasR.one_h r) (star1 (Le.refl h))).1
  refine ⟨_, hl, ?_⟩
  have : es.length = xs.length := by rw [← he, List.length_map]
  rw [this]; exact q h s
theorem Shift.ovSeal {D : Dt α size} {v : Value} {xs : List α} : Shift (OV D v xs :: l) (LV D v xs :: l) := by
  rintro h ⟨h1, h2, d, le, ⟨es, e, r, q⟩, s⟩
  have st : Star (Rw elF v es :: AllR D es :: l) h := by
    refine ⟨h1, un (roPart h1) h2, (roPart_dj h1).un_right d, ?_, r, roPart h1, h2, d.mono (roPart_le h1) (Le.refl _), Le.refl _, RoA.ro q, s⟩
    exact Le.un ((Le.left _ _).trans le) (Le.un ((roPart_le h1).trans ((Le.left _ _).trans le)) ((Le.right d).trans le))
  obtain ⟨h', vs, k1, k2, d', le', a, j1, j2, d2, le2, b, s'⟩ := Shift.rowSeal h st
  refine ⟨h', vs, un k1 (roPart j1), j2, ?_, ?_, ⟨es, e, RoA.mono (Le.left _ _) a, RoA.mono (Le.right ?_) (RoA.ro b)⟩, s'⟩
  · refine Dj.un_left (d'.mono (Le.refl _) ((Le.right d2).trans le2)) (d2.mono (roPart_le _) (Le.refl _))
  · exact Le.un (Le.un ((Le.left _ _).trans le') ((roPart_le _).trans (((Le.left _ _).trans le2).trans ((Le.right d').trans le')))) (((Le.right d2).trans le2).trans ((Le.right d').trans le'))
  · exact d'.mono (Le.refl _) ((roPart_le _).trans ((Le.left _ _).trans le2))
theorem Shift.pick {A : Asn} (p : Pick l A R) : Shift l (A :: R) := fun h s => ⟨h, Vs.refl h, p h s⟩
class Vsb (K : Asn) : Prop where vsb : ∀ {h h' : PH}, Vs h h' → K h' → K h
theorem Ent.froze {φ : Asn} [k : Vsb φ] {D : Dt α size} {v : Value} {xs : List α} (p : Pick l (OV D v xs) R) (e : Ent (LV D v xs :: R) φ) : Ent l φ := fun h s => by
  obtain ⟨h', vs, s'⟩ := Shift.ovSeal h (p h s)
  exact k.vsb vs (e h' s')
instance {f : FuncId} {args : List Value} {K : Value → Asn} : Vsb (Cl P f args K) := ⟨fun v e => OpR.vs_pre v e⟩
instance {β : Type} {s : Sem β} {K : β → Asn} : Vsb (Runs P s K) := ⟨fun v e => Runs.vs_pre v e⟩
instance {X : Type} {v : Value} {res : X → Value} {φ : X → Prop} {post : X → List Asn} : Vsb (fun h => ∃ h', Vs h h' ∧ ∃ x, v = res x ∧ φ x ∧ Star (post x) h') := ⟨fun v ⟨h', v', q⟩ => ⟨h', v.trans v', q⟩⟩
theorem Shift.openLast {A B : Asn} (p : Pick l A R) (s : Shift (A :: R) (B :: R)) : Shift l (B :: R) := (Shift.pick p).trans s
theorem oNilD {φ : Asn} (D : Dt α size) (e : Ent (OV D (.slice none 0 0) ([] : List α) :: l) φ) : Ent l φ := fun h s =>
  e h ⟨emp, h, (Dj.emp h).symm, Le.un (fun _ _ e => by simp [emp] at e) (Le.refl _), ⟨[], rfl, row_nil _, fun e he => by cases he⟩, s⟩
theorem oNilL {φ : Asn} (D : Dt α size) (e : Ent (LV D (.slice none 0 0) ([] : List α) :: l) φ) : Ent l φ := fun h s =>
  e h ⟨emp, h, (Dj.emp h).symm, Le.un (fun _ _ e => by simp [emp] at e) (Le.refl _), ⟨[], rfl, .inl ⟨.nil, rfl, rfl⟩, fun e he => by cases he⟩, s⟩
theorem Ent.mk1 {φ : Asn} {b : Nat} {cs : List Value} (D : Dt α size) (y : α) (p : Pick l (cl b cs) R) (hr : ∀ h, Star R h → D.rep y cs h) (e : Ent (OV D (.slice (some ⟨b, 0, none⟩) 1 1) [y] :: R) φ) : Ent l φ := fun h s => by
  obtain ⟨h1, h2, d, le, a, r⟩ := p h s
  have hry := hr h2 r
  have hrow : Row size (.slice (some ⟨b, 0, none⟩) 1 1) 1 cs h1 := row_of_cl (by rw [D.len hry, Nat.one_mul]) _ a
  refine e h ⟨un h1 (roPart h2), h2, d.un_left (roPart_dj h2).symm, Le.un (Le.un ((Le.left _ _).trans le) ((roPart_le _).trans ((Le.right d).trans le))) ((Le.right d).trans le), ?_, r⟩
  refine ⟨[⟨y, cs, D.len hry, D.ones hry⟩], rfl, ?_, ?_⟩
  · show Row size _ 1 (cs ++ []) _
    rw [List.append_nil]; exact RowP.up (Le.left _ _) hrow
  · intro e he
    simp at he; subst he
    exact RoA.mono (Le.right (d.mono (Le.refl _) (roPart_le h2))) (RoA.ro hry)
theorem Ent.mk0 {φ : Asn} {b : Nat} (D : Dt α size) (p : Pick l (cl b []) R) (e : Ent (OV D (.slice (some ⟨b, 0, none⟩) 0 0) ([] : List α) :: R) φ) : Ent l φ := fun h s => by
  obtain ⟨h1, h2, d, le, a, r⟩ := p h s
  exact e h ⟨h1, h2, d, le, ⟨[], rfl, (row_of_cl (size := size) (n := 0) (cs := []) (by simp) _ a), fun e he => by cases he⟩, r⟩
theorem oPushD {T T2 ty e b by_ : Nat} {d : TypeDesc} {s : Value} {D : Dt α size} {xs : List α} {new : List Value} {z : Value}
    [p : PkOC l s D xs R] [hT : UndC P T (.slice e)] [h2 : UndC P T2 d] [hi : InfC P e size by_ z] [nw : HasC R b new]
    (hs : Nat.ble 1 size = true) (hd : isIntD d = false) (hz : z.cells.size = size) (hpos : by_ ≠ 0) (y : α) (hr : ∀ h, Star R h → D.rep y new h) (hb : (2 * (xs.length + 1) + 192) * by_ ≤ 281474976710656)
    (q : ∀ v, Ent (OV D v (xs ++ [y]) :: R) (K v)) : Ent l (Runs P (Builtin.append_ #[T, T2] ty #[s, .slice (some ⟨b, 0, none⟩) 1 1]) K) := by
  refine Ent.openX p.pick OV.open fun es he => ?_
  dsimp only [List.cons_append, List.nil_append]
  intro h st
  have hry : D.rep y new h := has_there (has_there hr) h st
  let ey : El α size := ⟨y, new, D.len hry, D.ones hry⟩
  refine oPush (s := s) (f := elF) (xs := es) hs trivial hd hz ey rfl hpos (by rw [← he, List.length_map] at hb; exact hb) (fun v => ?_) h st
  have e2 : (es ++ [ey]).map El.x = xs ++ [y] := by rw [List.map_append, he]; rfl
  refine Ent.add (A := AllR D (es ++ [ey])) (fun h s => ?_) ?_
  · obtain ⟨_, h2, d, le, _, k1, k2, d', le', a, r⟩ := s
    intro e he
    rcases List.mem_append.1 he with he | he
    · exact RoA.mono (((Le.left _ _).trans le').trans ((Le.right d).trans le)) (a e he)
    · simp at he; subst he
      exact RoA.mono ((Le.right d').trans (le'.trans ((Le.right d).trans le))) (hr k2 r)
  · refine Ent.close (m := [Rw elF v (es ++ [ey]), AllR D (es ++ [ey])]) (R := AllR D es :: R) (.cons P1 (.cons P0 .nil)) (OV.close e2) ?_
    exact Ent.perm (l' := OV D v (xs ++ [y]) :: []) (R := AllR D es :: R) (.cons P0 .nil) (fun h s => q v h (by
      obtain ⟨h1, h2, d, le, a, k1, k2, d', le', _, r⟩ := s
      exact ⟨h1, k2, d.mono (Le.refl _) ((Le.right d').trans le'), Le.un ((Le.left _ _).trans le) (((Le.right d').trans le').trans ((Le.right d).trans le)), a, r⟩))
theorem LV.one {D : Dt α size} {v : Value} {xs : List α} {h : PH} (a : LV D v xs h) : one v = true := let ⟨_, _, r, _⟩ := a; one_of_row r
theorem LV.up {D : Dt α size} {v : Value} {xs : List α} {h k : PH} (le : Le h k) (a : LV D v xs h) : LV D v xs k := RoA.mono le a
theorem picks_drop3 {A B C : Asn} : ∀ (L : List Asn), Picks (A :: B :: C :: L) L [A, B, C]
  | [] => .nil
  | _ :: L => .cons (.there (.there (.there .here))) (picks_drop3 L)
theorem oCatD {T T2 ty e by_ : Nat} {d : TypeDesc} {s x : Value} {D : Dt α size} {xs ys : List α} {z : Value}
    [p : PkOC l s D xs R] [hT : UndC P T (.slice e)] [h2 : UndC P T2 d] [hi : InfC P e size by_ z] (nw : ∀ h, Star R h → LV D x ys h)
    (hs : Nat.ble 1 size = true) (hd : isIntD d = false) (hz : z.cells.size = size) (hpos : by_ ≠ 0) (hb : (2 * (xs.length + ys.length) + 192) * by_ ≤ 281474976710656)
    (q : ∀ v, Ent (OV D v (xs ++ ys) :: R) (K v)) : Ent l (Runs P (Builtin.append_ #[T, T2] ty #[s, x]) K) := by
  refine Ent.openX p.pick OV.open fun es he => ?_
  dsimp only [List.cons_append, List.nil_append]
  intro h st
  obtain ⟨es2, he2, r2, q2⟩ := has_there (has_there nw) h st
  have st2 : Star (Rr elF x es2 :: AllR D es2 :: Rw elF s es :: AllR D es :: R) h := Star.dupRo (A := Rr elF x es2) r2 (Star.dupRo (A := AllR D es2) q2 st)
  refine (?_ : Ent (Rr elF x es2 :: AllR D es2 :: Rw elF s es :: AllR D es :: R) _) h st2
  refine oCat (s := s) (x := x) (f := elF) (xs := es) (ys := es2) hs trivial hd hz hpos (by rw [← he, ← he2, List.length_map, List.length_map] at hb; exact hb) (fun v => ?_)
  have e2 : (es ++ es2).map El.x = xs ++ ys := by rw [List.map_append, he, he2]
  refine Ent.add (A := AllR D (es ++ es2)) (fun h s => ?_) ?_
  · have a1 : AllR D es2 h := has_there (has_there has_here) h s
    have a2 : AllR D es h := has_there (has_there (has_there has_here)) h s
    intro e he
    rcases List.mem_append.1 he with he | he
    · exact a2 e he
    · exact a1 e he
  · refine Ent.close (m := [Rw elF v (es ++ es2), AllR D (es ++ es2)]) (.cons P1 (.cons P0 .nil)) (OV.close e2) ?_
    exact Ent.perm (l' := OV D v (xs ++ ys) :: R) (R := _) (.cons P0 (picks_drop3 _)) (fun h s => q v h s.drop_right)
theorem oSetD {v : Value} {D : Dt α size} {xs : List α} [x : PkOC l v D xs R] {k : IntKind} {i : Int} {u : Value} (hs : Nat.ble 1 size = true) (n : Nat) (hi : i = n) (h2 : n < xs.length) (y : α) (hr : ∀ h, Star R h → D.rep y u.cells.toList h)
    (q : Ent (OV D v (xs.set n y) :: R) (K undef)) : Ent l (O (idxV size v (.int k i)) fun a => St size a u K) := by
  refine Ent.openX x.pick OV.open fun es he => ?_
  dsimp only [List.cons_append, List.nil_append]
  intro h st
  have hry : D.rep y u.cells.toList h := has_there (has_there hr) h st
  let ey : El α size := ⟨y, u.cells.toList, D.len hry, D.ones hry⟩
  have hl : n < es.length := by rw [← he, List.length_map] at h2; exact h2
  refine oSet (v := v) (f := elF) (xs := es) hs ey (by omega) (by omega) rfl ?_ h st
  have hn : i.toNat = n := by omega
  rw [hn]
  have e2 : (es.set n ey).map El.x = xs.set n y := by rw [List.map_set, he]
  refine Ent.add (A := AllR D (es.set n ey)) (fun h s => ?_) ?_
  · have a2 : AllR D es h := has_there has_here h s
    have a3 : D.rep y u.cells.toList h := has_there (has_there hr) h s
    intro e he
    rcases List.mem_or_eq_of_mem_set he with he | rfl
    · exact a2 e he
    · exact a3
  · refine Ent.close (m := [Rw elF v (es.set n ey), AllR D (es.set n ey)]) (.cons P1 (.cons P0 .nil)) (OV.close e2) ?_
    exact Ent.perm (l' := OV D v (xs.set n y) :: []) (R := _) (.cons P0 .nil) (fun h s => q h (by
      obtain ⟨h1, h2, d, le, a, k1, k2, d', le', _, r⟩ := s
      exact ⟨h1, k2, d.mono (Le.refl _) ((Le.right d').trans le'), Le.un ((Le.left _ _).trans le) (((Le.right d').trans le').trans ((Le.right d).trans le)), a, r⟩))
theorem oCutD {D : Dt α size} {v : Value} {xs : List α} (x : ∀ h, Star l h → LV D v xs h) {lo' hi' : Option Value} (lo hi : Nat) (h1 : lo ≤ hi) (h2 : hi ≤ xs.length)
    (hlo : (match lo' with | some x => bndV x hi | none => some 0) = some lo) (hhi : ∀ c, xs.length ≤ c → (match hi' with | some x => bndV x c | none => some xs.length) = some hi)
    (q : ∀ u, Ent (LV D u ((xs.take hi).drop lo) :: l) (K u)) : Ent l (O (slcV size v lo' hi' none) K) := fun h s => by
  obtain ⟨es, he, r, a⟩ := x h s
  have hl : es.length = xs.length := by rw [← he, List.length_map]
  obtain ⟨u, hu, ru⟩ := ro_cut (f := elF) (xs := es) rfl r h1 (by omega) lo' hi' hlo (by rw [hl]; exact hhi)
  refine ⟨u, hu, q u h (Star.dupRo (A := LV D u ((xs.take hi).drop lo)) ⟨(es.take hi).drop lo, by rw [List.map_drop, List.map_take, he], ru, fun e he => a e (List.mem_of_mem_take (List.mem_of_mem_drop he))⟩ s)⟩
theorem Ent.mkN {φ : Asn} {b n : Nat} {cs : List Value} (D : Dt α size) (y : α) (p : Pick l (cl b (rep cs n)) R) (hr : ∀ h, D.rep y cs h) (e : Ent (OV D (.slice (some ⟨b, 0, none⟩) n n) (List.replicate n y) :: R) φ) : Ent l φ := fun h s => by
  obtain ⟨h1, h2, d, le, a, r⟩ := p h s
  let ey : El α size := ⟨y, cs, D.len (hr h), D.ones (hr h)⟩
  have hf : ∀ n, flat elF (List.replicate n ey) = rep cs n := by
    intro n
    induction n with
    | zero => rfl
    | succ n ih => rw [List.replicate_succ]; show cs ++ flat elF _ = cs ++ rep cs n; rw [ih]
  refine e h ⟨h1, h2, d, le, ⟨List.replicate n ey, by rw [List.map_replicate], ?_, fun e he => ?_⟩, r⟩
  · rw [List.length_replicate, hf]
    exact row_of_cl (by rw [← hf, flat_len, List.length_replicate]) _ a
  · rw [List.eq_of_mem_replicate he]; exact hr h1
theorem fold_take {S : Type} {step : S → α → S} {s0 : S} {xs : List α} {i : Nat} {y : α} (h : xs[i]? = some y) : (xs.take (i + 1)).foldl step s0 = step ((xs.take i).foldl step s0) y := by
  obtain ⟨hlt, e⟩ := List.getElem?_eq_some_iff.1 h
  rw [List.take_succ_eq_append_getElem hlt, List.foldl_append, e]; rfl
theorem map_take {β : Type} {g : α → β} {xs : List α} {i : Nat} {y : α} (h : xs[i]? = some y) : (xs.take (i + 1)).map g = (xs.take i).map g ++ [g y] := by
  obtain ⟨hlt, e⟩ := List.getElem?_eq_some_iff.1 h
  rw [List.take_succ_eq_append_getElem hlt, List.map_append, e]; rfl
end
end Go.Sl
namespace Go.Sl
open Go
section
variable {P : Program} {l R : List Asn} {K : Value → Asn}
theorem oLsT {k : IntKind} {x y : Int} (h : x < y) (q : Ent l (K (.bool true))) : Ent l (O (binV .lss (.int k x) (.int k y)) K) := ent_O (by show (if k = k then arI .lss k x y else none) = _; rw [if_pos rfl]; simp [arI, cmpI, h]) q
theorem oLsF {k : IntKind} {x y : Int} (h : ¬ x < y) (q : Ent l (K (.bool false))) : Ent l (O (binV .lss (.int k x) (.int k y)) K) := ent_O (by show (if k = k then arI .lss k x y else none) = _; rw [if_pos rfl]; simp [arI, cmpI]; omega) q
theorem oLeT {k : IntKind} {x y : Int} (h : x ≤ y) (q : Ent l (K (.bool true))) : Ent l (O (binV .leq (.int k x) (.int k y)) K) := ent_O (by show (if k = k then arI .leq k x y else none) = _; rw [if_pos rfl]; simp [arI, cmpI, h]) q
theorem oLeF {k : IntKind} {x y : Int} (h : ¬ x ≤ y) (q : Ent l (K (.bool false))) : Ent l (O (binV .leq (.int k x) (.int k y)) K) := ent_O (by show (if k = k then arI .leq k x y else none) = _; rw [if_pos rfl]; simp [arI, cmpI]; omega) q
theorem oGtT {k : IntKind} {x y : Int} (h : x > y) (q : Ent l (K (.bool true))) : Ent l (O (binV .gtr (.int k x) (.int k y)) K) := ent_O (by show (if k = k then arI .gtr k x y else none) = _; rw [if_pos rfl]; simp [arI, cmpI]; omega) q
theorem oGtF {k : IntKind} {x y : Int} (h : ¬ x > y) (q : Ent l (K (.bool false))) : Ent l (O (binV .gtr (.int k x) (.int k y)) K) := ent_O (by show (if k = k then arI .gtr k x y else none) = _; rw [if_pos rfl]; simp [arI, cmpI]; omega) q
theorem oGeT {k : IntKind} {x y : Int} (h : x ≥ y) (q : Ent l (K (.bool true))) : Ent l (O (binV .geq (.int k x) (.int k y)) K) := ent_O (by show (if k = k then arI .geq k x y else none) = _; rw [if_pos rfl]; simp [arI, cmpI]; omega) q
theorem oGeF {k : IntKind} {x y : Int} (h : ¬ x ≥ y) (q : Ent l (K (.bool false))) : Ent l (O (binV .geq (.int k x) (.int k y)) K) := ent_O (by show (if k = k then arI .geq k x y else none) = _; rw [if_pos rfl]; simp [arI, cmpI]; omega) q
theorem oEqT {k : IntKind} {x y : Int} (h : x = y) (q : Ent l (K (.bool true))) : Ent l (O (binV .eql (.int k x) (.int k y)) K) := oEq (by rw [decide_eq_true h]; exact q)
theorem oEqF {k : IntKind} {x y : Int} (h : ¬ x = y) (q : Ent l (K (.bool false))) : Ent l (O (binV .eql (.int k x) (.int k y)) K) := oEq (by rw [decide_eq_false h]; exact q)
theorem oNeT {k : IntKind} {x y : Int} (h : ¬ x = y) (q : Ent l (K (.bool true))) : Ent l (O (binV .neq (.int k x) (.int k y)) K) := oNe (by rw [decide_eq_true h]; exact q)
theorem oNeF {k : IntKind} {x y : Int} (h : x = y) (q : Ent l (K (.bool false))) : Ent l (O (binV .neq (.int k x) (.int k y)) K) := oNe (by rw [decide_eq_false (by simpa using h)]; exact q)
theorem oLW {n b : Nat} {cs : List Value} [x : HasC l b cs] (h : cs.length = n) (q : Ent l (K (.agg cs.toArray))) : Ent l (Ld (some n) (.pointer (some ⟨b, 0, none⟩)) K) := by
  subst h
  refine oL ?_ q
  simp [rdV, rdCells]
theorem rdkW {n : Nat} {cs : List Value} (h : cs.length = n) (q : Ent l (K (.agg cs.toArray))) : Ent l (RdK cs 0 (some n) K) := by
  subst h
  refine rdk ?_ q
  simp [rdV, rdCells]
theorem wr_all : ∀ (l c : List Value) (k : Nat) (a : List Value), c.length = l.length → k = a.length → wrCells (a ++ c) k l = a ++ l := by
  intro l
  induction l with
  | nil => intro c k a h _; cases c <;> simp_all [wrCells]
  | cons v l ih =>
    intro c k a h hk
    cases c with
    | nil => simp at h
    | cons u c =>
      subst hk
      simp only [wrCells]
      have e : (a ++ u :: c).set a.length v = (a ++ [v]) ++ c := by simp
      rw [e, ih c (a.length + 1) (a ++ [v]) (by simpa using h) (by simp)]
      simp
theorem oSW {n b : Nat} {cs cs' : List Value} [x : PkC l b cs R] (h1 : cs.length = n) (h2 : cs'.length = n) (h3 : cs'.all one = true) (q : Ent (cl b cs' :: R) (K undef)) : Ent l (St n (.pointer (some ⟨b, 0, none⟩)) (.agg cs'.toArray) K) := by
  refine oS (by simpa [Value.cells] using h2) (Nat.ble_eq_true_of_le (by omega)) (by simpa [Value.cells] using h3) ?_ q
  have := wr_all cs' cs 0 [] (by omega) rfl
  simpa [Value.cells] using this
theorem oExt {i : Nat} {vs : List Value} {v : Value} (e : vs[i]? = some v) (q : Ent l (K v)) : Ent l (O (extV i (.tuple vs.toArray)) K) := ent_O (by simpa [extV] using e) q
theorem isO {o : Option Value} (q : Ent l (O o K)) : Ent l (O o K) := q
theorem oAgg {z cs : List Value} {w : List (Nat × Nat × Value)} (e : bldV z w = some cs) (q : Ent l (K (.agg cs.toArray))) : Ent l (O (aggO (bldV z w)) K) := ent_O (by rw [e]; rfl) q
theorem oBS {t : TypeId} {n : Nat} {z c : List Value} {w : List (Nat × Nat × Value)} (e : bldV z w = some c) (q : ∀ b, Ent (cl b c :: l) (K (.slice (some ⟨b, 0, none⟩) n n))) : Ent l (BS t (bldV z w) n K) := ent_BS e q
theorem str_eq (a b : ByteArray) : (a.toList == b.toList) = decide (a = b) := by
  rw [ByteArray.toList_eq, ByteArray.toList_eq]
  by_cases h : a = b
  · subst h; simp
  · rw [decide_eq_false h, beq_eq_false_iff_ne]
    intro e
    exact h (ByteArray.ext (Array.toList_inj.1 e))
theorem oCatS {a b : ByteArray} (h : a.size + b.size ≤ 9223372036854775807) (q : Ent l (K (.string (a ++ b)))) : Ent l (O (binV .add (.string a) (.string b)) K) := ent_O (by
  have hm : IntKind.i64.max = 9223372036854775807 := rfl
  show (if ((a.size + b.size : Nat) : Int) > IntKind.i64.max then none else some (Value.string (a ++ b))) = _
  rw [if_neg (by rw [hm]; omega)]) q
theorem oEqS {a b : ByteArray} (q : Ent l (K (.bool (decide (a = b))))) : Ent l (O (binV .eql (.string a) (.string b)) K) := ent_O (by show some (Value.bool (a.toList == b.toList)) = _; rw [str_eq]) q
theorem oNeS {a b : ByteArray} (q : Ent l (K (.bool (decide (a ≠ b))))) : Ent l (O (binV .neq (.string a) (.string b)) K) := ent_O (by show some (Value.bool !(a.toList == b.toList)) = _; rw [str_eq]; congr 2; by_cases h : a = b <;> simp [h]) q
theorem oCutS {s : ByteArray} {lo' hi' : Option Value} (lo hi : Nat) (h1 : lo ≤ hi) (h2 : hi ≤ s.size) (hlo : (match lo' with | some x => bndV x hi | none => some 0) = some lo) (hhi : (match hi' with | some x => bndV x s.size | none => some s.size) = some hi)
    (q : Ent l (K (.string (s.extract lo hi)))) : Ent l (O (slcS (.string s) lo' hi') K) := ent_O (by
  simp only [slcS]
  cases hi' <;> cases lo' <;> dsimp only at hlo hhi ⊢ <;> first | rw [hhi, Option.bind_some] | rw [Option.bind_some]
  all_goals first | rw [hlo, Option.bind_some] | rw [Option.bind_some]
  all_goals first | rfl | (cases hhi; cases hlo; rfl) | (cases hlo; rfl) | (cases hhi; rfl)) q
theorem oByte {s : ByteArray} {k : IntKind} {i : Int} (n : Nat) (hi : i = n) (h : n < s.size) (q : Ent l (K (.int .u8 (s[n]).toNat))) : Ent l (O (sidxV (.string s) (.int k i)) K) := ent_O (by
  subst hi
  simp only [sidxV]
  rw [if_pos (by omega)]
  simp [h]) q
theorem isSt {n : Nat} {x v : Value} (q : Ent l (St n x v K)) : Ent l (St n x v K) := q
theorem isLd {m : Option Nat} {x : Value} (q : Ent l (Ld m x K)) : Ent l (Ld m x K) := q
theorem isVB {v : Value} {x y : Asn} (q : Ent l (VB v x y)) : Ent l (VB v x y) := q
theorem isAnd {x y : Asn} (q : Ent l (And2 x y)) : Ent l (And2 x y) := q
theorem isRdK {cs : List Value} {o : Nat} {m : Option Nat} (q : Ent l (RdK cs o m K)) : Ent l (RdK cs o m K) := q
theorem isBin {op : BinOp} {x y : Value} (q : Ent l (O (binV op x y) K)) : Ent l (O (binV op x y) K) := q
theorem isCv {k : IntKind} {x : Value} (q : Ent l (O (cvV k x) K)) : Ent l (O (cvV k x) K) := q
theorem is_lss {x y : Value} (q : Ent l (O (binV .lss x y) K)) : Ent l (O (binV .lss x y) K) := q
theorem is_leq {x y : Value} (q : Ent l (O (binV .leq x y) K)) : Ent l (O (binV .leq x y) K) := q
theorem is_gtr {x y : Value} (q : Ent l (O (binV .gtr x y) K)) : Ent l (O (binV .gtr x y) K) := q
theorem is_geq {x y : Value} (q : Ent l (O (binV .geq x y) K)) : Ent l (O (binV .geq x y) K) := q
theorem is_eql {x y : Value} (q : Ent l (O (binV .eql x y) K)) : Ent l (O (binV .eql x y) K) := q
theorem is_neq {x y : Value} (q : Ent l (O (binV .neq x y) K)) : Ent l (O (binV .neq x y) K) := q
theorem is_add {x y : Value} (q : Ent l (O (binV .add x y) K)) : Ent l (O (binV .add x y) K) := q
theorem is_sub {x y : Value} (q : Ent l (O (binV .sub x y) K)) : Ent l (O (binV .sub x y) K) := q
theorem is_mul {x y : Value} (q : Ent l (O (binV .mul x y) K)) : Ent l (O (binV .mul x y) K) := q
theorem oLs {k : IntKind} {x y : Int} (q : Ent l (K (.bool (decide (x < y))))) : Ent l (O (binV .lss (.int k x) (.int k y)) K) := ent_O (by show (if k = k then arI .lss k x y else none) = _; rw [if_pos rfl]; rfl) q
theorem oLe {k : IntKind} {x y : Int} (q : Ent l (K (.bool (decide (x ≤ y))))) : Ent l (O (binV .leq (.int k x) (.int k y)) K) := ent_O (by show (if k = k then arI .leq k x y else none) = _; rw [if_pos rfl]; rfl) q
theorem oGt {k : IntKind} {x y : Int} (q : Ent l (K (.bool (decide (x > y))))) : Ent l (O (binV .gtr (.int k x) (.int k y)) K) := ent_O (by show (if k = k then arI .gtr k x y else none) = _; rw [if_pos rfl]; rfl) q
theorem oGe {k : IntKind} {x y : Int} (q : Ent l (K (.bool (decide (x ≥ y))))) : Ent l (O (binV .geq (.int k x) (.int k y)) K) := ent_O (by show (if k = k then arI .geq k x y else none) = _; rw [if_pos rfl]; rfl) q
theorem oAddW {k : IntKind} {x y : Int} (q : Ent l (K (.int k (k.wrap (x + y))))) : Ent l (O (binV .add (.int k x) (.int k y)) K) := ent_O (by show (if k = k then arI .add k x y else none) = _; rw [if_pos rfl]; rfl) q
theorem oSubW {k : IntKind} {x y : Int} (q : Ent l (K (.int k (k.wrap (x - y))))) : Ent l (O (binV .sub (.int k x) (.int k y)) K) := ent_O (by show (if k = k then arI .sub k x y else none) = _; rw [if_pos rfl]; rfl) q
theorem oMulW {k : IntKind} {x y : Int} (q : Ent l (K (.int k (k.wrap (x * y))))) : Ent l (O (binV .mul (.int k x) (.int k y)) K) := ent_O (by show (if k = k then arI .mul k x y else none) = _; rw [if_pos rfl]; rfl) q
theorem oCvW {k j : IntKind} {x : Int} (q : Ent l (K (.int j (j.wrap x)))) : Ent l (O (cvV j (.int k x)) K) := ent_O rfl q
def binW (op : BinOp) (x y : Value) : Option Value :=
  match x, y with
  | .int k a, .int k' b =>
    match op with
    | .shl => if b < 0 then none else some (.int k (k.wrap (a * 2 ^ min b.toNat k.bits)))
    | .shr => if b < 0 then none else some (.int k (a.fdiv (2 ^ min b.toNat k.bits)))
    | _ => if k = k' then arI op k a b else none
  | .string a, .string b => strV op a b
  | _, _ => none
theorem binW_eq (op : BinOp) (x y : Value) : binV op x y = binW op x y := rfl
theorem oBin {op : BinOp} {x y v : Value} (e : binW op x y = some v) (q : Ent l (K v)) : Ent l (O (binV op x y) K) := ent_O (by rw [binW_eq]; exact e) q
theorem ent_VBt {b : Bool} {x y : Asn} (h : b = true) (k : Ent l x) : Ent l (VB (.bool b) x y) := by subst h; exact k
theorem ent_VBf {b : Bool} {x y : Asn} (h : b = false) (k : Ent l y) : Ent l (VB (.bool b) x y) := by subst h; exact k
theorem oMin {k : IntKind} {a b : Int} (q : Ent l (K (.int k (min a b)))) : Ent l (O (minV (.int k a) (.int k b)) K) := ent_O (by
  show some (Value.int k (if b < a then b else a)) = _
  congr 2; split <;> omega) q
theorem oMax {k : IntKind} {a b : Int} (q : Ent l (K (.int k (max a b)))) : Ent l (O (maxV (.int k a) (.int k b)) K) := ent_O (by
  show some (Value.int k (if b > a then b else a)) = _
  congr 2; split <;> omega) q
theorem oSlD {α : Type} {size : Nat} {D : Dt α size} {φ : Asn} (v : Value) {xs : List α} [x : HasDC l v D xs] (k : ∀ base cap, v = .slice base xs.length cap → Ent l φ) : Ent l φ := fun h st => by
  obtain ⟨es, he, _, r⟩ := x.has.row st
  have hl : es.length = xs.length := by rw [← he, List.length_map]
  rcases r with ⟨⟨base0, cap0, e, _⟩, e2, _⟩ | ⟨b, off, cap, _, _, _, _, _, e, _⟩
  · exact k base0 cap0 (by rw [e, ← hl, e2]) h st
  · exact k _ _ (by rw [e, ← hl]) h st
theorem oMk {e : TypeId} {z : List Value} {by' : Nat} {k1 k2 : IntKind} {i j : Int} (n : Nat) (hi : i = n) (hj : j = n) (hb : by' * n ≤ 281474976710656) (hn : n < 9223372036854775808) (q : ∀ b, Ent (cl b (rep z n) :: l) (K (.slice (some ⟨b, 0, none⟩) n n))) :
    Ent l (MSl e z by' (.int k1 i) (.int k2 j) K) := fun h s => by
  subst hi hj
  refine ⟨(n, n), ?_, ent_Nw q h s⟩
  have hb' : (by' : Int) * (n : Int) ≤ 281474976710656 := by
    have : ((by' * n : Nat) : Int) ≤ 281474976710656 := Int.ofNat_le.2 hb
    rw [Int.natCast_mul] at this; exact this
  unfold lenOk
  dsimp only
  rw [if_pos ⟨Int.natCast_nonneg n, Int.le_refl _, hb', Int.ofNat_lt.2 hn⟩]
  rfl
theorem Picks.all : ∀ (l : List Asn), Picks l l []
  | [] => .nil
  | _ :: l => .cons .here (Picks.all l)
def AV {α : Type} {size : Nat} (D : Dt α size) (v : Value) (xs : List α) : Asn := fun h => LV D v xs h ∨ OV D v xs h
section
variable {α : Type} {size : Nat} {D : Dt α size} {v : Value} {xs : List α}
theorem Pick.avO (p : Pick l (OV D v xs) R) : Pick l (AV D v xs) R := fun h s => let ⟨h1, h2, d, le, a, r⟩ := p h s; ⟨h1, h2, d, le, .inr a, r⟩
theorem Pick.avL (x : ∀ h, Star l h → LV D v xs h) : Pick l (AV D v xs) l := fun h s => let ⟨h1, h2, d, le, a, r⟩ := Pick.ro x h s; ⟨h1, h2, d, le, .inl a, r⟩
instance (priority := 1100) : HasDC (AV D v xs :: R) v D xs := ⟨fun h ⟨_, _, _, le, a, _⟩ => a.imp (fun a => RoA.mono ((Le.left _ _).trans le) a) (fun a => a.up ((Le.left _ _).trans le))⟩
theorem Ent.sealA {φ : Asn} [k : Vsb φ] (p : Pick l (AV D v xs) R) (e : Ent (LV D v xs :: R) φ) : Ent l φ := fun h s => by
  obtain ⟨h1, h2, d, le, a, r⟩ := p h s
  rcases a with a | a
  · exact e h ⟨h1, h2, d, le, a, r⟩
  · exact Ent.froze (R := R) .here e h ⟨h1, h2, d, le, a, r⟩
end
theorem ent_range {S : Type} {init : List Value} {body : List Value → (Nat → Value) → (List Value → Asn) → Asn} (n : Nat) (vals : Nat → S → List Value) (φ : Nat → S → Prop) (m : Nat → S → List Asn)
    (s0 : S) (e0 : init = vals 0 s0) (h0 : φ 0 s0) (p : Picks l (m 0 s0) R)
    (k : ∀ i s, φ i s → i < n → ∀ j kk, (∀ s', φ (i + 1) s' → Ent (app (m (i + 1) s') R) (kk (vals (i + 1) s'))) → Ent (m i s ++ R) (body (vals i s) j kk))
    (z : ∀ s, φ n s → ∀ j kk, Ent (m n s ++ R) (body (vals n s) j kk)) : Ent l (VL init body) := by
  refine fun h s => ⟨fun r xs h => ∃ i s', xs = vals i s' ∧ φ i s' ∧ i ≤ n ∧ n - i = r ∧ Star (m i s' ++ R) h, ⟨n, 0, s0, e0, h0, Nat.zero_le _, rfl, p.star s⟩, fun r xs j h' ⟨i, s', e, hφ, hi, hr, st⟩ => ?_⟩
  subst e
  by_cases hlt : i < n
  · exact k i s' hφ hlt j _ (fun s'' f h q => ⟨n - (i + 1), by omega, i + 1, s'', rfl, f, hlt, rfl, q⟩) h' st
  · have : i = n := by omega
    subst this
    exact z s' hφ j _ h' st
theorem ent_loop {S : Type} {init : List Value} {body : List Value → (Nat → Value) → (List Value → Asn) → Asn} (vals : S → List Value) (φ : S → Prop) (μ : S → Nat) (m : S → List Asn)
    (s0 : S) (e0 : init = vals s0) (h0 : φ s0) (p : Picks l (m s0) R)
    (k : ∀ s, φ s → ∀ j kk, (∀ s', φ s' → μ s' < μ s → Ent (app (m s') R) (kk (vals s'))) → Ent (m s ++ R) (body (vals s) j kk)) : Ent l (VL init body) :=
  fun h st => ⟨fun r xs h => ∃ s', xs = vals s' ∧ φ s' ∧ μ s' = r ∧ Star (m s' ++ R) h, ⟨_, s0, e0, h0, rfl, p.star st⟩, fun r xs j h' ⟨s', e, hφ, hr, st⟩ => by
    subst e
    exact k s' hφ j _ (fun s'' f hm h q => ⟨μ s'', by omega, s'', rfl, f, rfl, q⟩) h' st⟩
theorem ent_loopD {S : Type} {init : List Value} {body : List Value → (Nat → Value) → (List Value → Asn) → Asn} (vals : S → List Value) (φ : S → Prop) (μ : S → Nat) (m : S → List Asn)
    (s0 : S) (e0 : init = vals s0) (h0 : φ s0) (p : Picks l (m s0) R)
    (k : ∀ s, φ s → ∀ j kk, (∀ s', φ s' → μ s' < μ s → Ent (m s') (kk (vals s'))) → Ent (m s) (body (vals s) j kk)) : Ent l (VL init body) :=
  fun h st => ⟨fun r xs h => ∃ s', xs = vals s' ∧ φ s' ∧ μ s' = r ∧ Star (m s') h, ⟨_, s0, e0, h0, rfl, (p.star st).drop_right⟩, fun r xs j h' ⟨s', e, hφ, hr, st⟩ => by
    subst e
    exact k s' hφ j _ (fun s'' f hm h q => ⟨μ s'', by omega, s'', rfl, f, rfl, q⟩) h' st⟩
theorem ent_rangeD {S : Type} {init : List Value} {body : List Value → (Nat → Value) → (List Value → Asn) → Asn} (n : Nat) (vals : Nat → S → List Value) (φ : Nat → S → Prop) (m : Nat → S → List Asn)
    (s0 : S) (e0 : init = vals 0 s0) (h0 : φ 0 s0) (p : Picks l (m 0 s0) R)
    (k : ∀ i s, φ i s → i < n → ∀ j kk, (∀ s', φ (i + 1) s' → Ent (m (i + 1) s') (kk (vals (i + 1) s'))) → Ent (m i s) (body (vals i s) j kk))
    (z : ∀ s, φ n s → ∀ j kk, Ent (m n s) (body (vals n s) j kk)) : Ent l (VL init body) := by
  refine fun h s => ⟨fun r xs h => ∃ i s', xs = vals i s' ∧ φ i s' ∧ i ≤ n ∧ n - i = r ∧ Star (m i s') h, ⟨n, 0, s0, e0, h0, Nat.zero_le _, rfl, (p.star s).drop_right⟩, fun r xs j h' ⟨i, s', e, hφ, hi, hr, st⟩ => ?_⟩
  subst e
  by_cases hlt : i < n
  · exact k i s' hφ hlt j _ (fun s'' f h q => ⟨n - (i + 1), by omega, i + 1, s'', rfl, f, hlt, rfl, q⟩) h' st
  · have : i = n := by omega
    subst this
    exact z s' hφ j _ h' st
theorem Ent.again {kk : List Value → Asn} {xs ys : List Value} {L R' : List Asn} (a : Ent L (kk ys)) (e : xs = ys) (p : Picks l L R') : Ent l (kk xs) := by
  subst e; exact fun h s => a h (p.star s).drop_right
end
end Go.Sl
namespace Go.Proofs.Ytndanmhgbfjinaa
open Go Go.Sl Go.Cd
attribute [local irreducible] Try.prog cl ro mp mpI clT RowP FrP Big LV OV AV O Ld St Nw VB BS Cl Rd Runs OpR VJ VL RdK MSl Cv And2 binV cvV minV maxV aggO
def dI : Dt Int 1 := Dt.of (fun n => [.int .i64 n]) (fun _ => rfl) (fun _ => rfl)
def dU32 : Dt Int 1 := Dt.of (fun n => [.int .u32 n]) (fun _ => rfl) (fun _ => rfl)
def dStr : Dt ByteArray 1 := Dt.of (fun s => [.string s]) (fun _ => rfl) (fun _ => rfl)
def dBool : Dt Bool 1 := Dt.of (fun b => [.bool b]) (fun _ => rfl) (fun _ => rfl)
def hasL (ps : List (Option ByteArray)) : List Bool := ps.map Option.isSome
def strL (ps : List (Option ByteArray)) : List ByteArray := ps.map (·.getD ⟨#[]⟩)
def dF : Dt AF 4 where
  rep F cs h := ∃ v : Value × Value, cs = [.int .i64 F.time, .int .i64 F.first, v.1, v.2] ∧ LV dBool v.1 (hasL F.parts) h ∧ LV dStr v.2 (strL F.parts) h
  ro _ _ := inferInstance
  len := fun ⟨v, e, _⟩ => by rw [e]; rfl
  ones := fun ⟨v, e, a, b⟩ => by rw [e]; simp only [List.all_cons, List.all_nil, a.one, b.one]; rfl
theorem dF.open {F : AF} {cs : List Value} (h : PH) (a : dF.rep F cs h) : ∃ v : Value × Value, cs = [.int .i64 F.time, .int .i64 F.first, v.1, v.2] ∧ Star [LV dBool v.1 (hasL F.parts), LV dStr v.2 (strL F.parts)] h :=
  let ⟨v, e, x, y⟩ := a; ⟨v, e, Star.dupRo x (star1 y)⟩
def lkF (acc : List Int × Nat) (b : Bool) : List Int × Nat := (if b then acc.1 else acc.1 ++ [(acc.2 : Int)], acc.2 + 1)
def lk (ps : List (Option ByteArray)) : List Int := ((hasL ps).foldl lkF ([], 0)).1
theorem lk_snd (l : List Bool) : ∀ (s : List Int × Nat), (l.foldl lkF s).2 = s.2 + l.length := by
  induction l with
  | nil => intro s; rfl
  | cons b l ih => intro s; rw [List.foldl_cons, ih]; simp [lkF]; omega
theorem lk_len (l : List Bool) : ∀ (a : List Int) (n : Nat), (l.foldl lkF (a, n)).1.length ≤ a.length + l.length := by
  induction l with
  | nil => intro a n; simp
  | cons b l ih =>
    intro a n
    have := ih (lkF (a, n) b).1 (lkF (a, n) b).2
    rw [List.foldl_cons]
    refine Nat.le_trans this ?_
    cases b <;> simp [lkF] <;> omega
theorem lacks_fn (F : AF) (cs : List Value) (hl : F.parts.length ≤ 255) : Ctr Try.prog 50 [.agg cs.toArray] [dF.rep F cs] (fun v : Value => v) (fun _ => True) (fun v => [OV dI v (lk F.parts)]) := by
  refine ctr_of e50 ?_
  refine Ent.openX P0 dF.open fun v e => ?_
  subst e
  have hl' : (hasL F.parts).length ≤ 255 := by unfold hasL; rw [List.length_map]; exact hl
  unfold S50
  refine oN fun b => ?_
  refine oBS (by (try simp only [nth, List.getD_cons_zero, List.getD_cons_succ, bldV, placeIn, wrCells, rep, Value.cells, aggV, List.set_cons_zero, List.set_cons_succ, List.length_cons, List.length_nil, List.nil_append, List.cons_append, List.append_nil, List.size_toArray, Option.bind_some, Nat.reduceAdd, Nat.reduceMul, Nat.reduceLeDiff, Nat.reduceEqDiff, Nat.zero_le, Nat.le_refl, true_and, and_self, and_true, if_true]); first | done | rfl) fun nb => ?_
  (try dsimp only [List.cons_append, List.nil_append, List.append]); repeat (first | (refine isO ?_; first | refine oExt rfl ?_ | refine ent_O rfl ?_ | refine oAgg (by (try simp only [nth, List.getD_cons_zero, List.getD_cons_succ, bldV, placeIn, wrCells, rep, Value.cells, aggV, List.set_cons_zero, List.set_cons_succ, List.length_cons, List.length_nil, List.nil_append, List.cons_append, List.append_nil, List.size_toArray, Option.bind_some, Nat.reduceAdd, Nat.reduceMul, Nat.reduceLeDiff, Nat.reduceEqDiff, Nat.zero_le, Nat.le_refl, true_and, and_self, and_true, if_true]); first | done | rfl) ?_ | refine oMin ?_ | refine oMax ?_ | (refine isCv ?_; first | refine oCv (by omega) (by omega) ?_ | refine oCvW ?_) | (refine isBin ?_; first | (refine is_lss ?_; first | refine oLsT (by omega) ?_ | refine oLsF (by omega) ?_ | refine oLs ?_) | (refine is_leq ?_; first | refine oLeT (by omega) ?_ | refine oLeF (by omega) ?_ | refine oLe ?_) | (refine is_gtr ?_; first | refine oGtT (by omega) ?_ | refine oGtF (by omega) ?_ | refine oGt ?_) | (refine is_geq ?_; first | refine oGeT (by omega) ?_ | refine oGeF (by omega) ?_ | refine oGe ?_) | (refine is_eql ?_; first | refine oEqT (by omega) ?_ | refine oEqF (by omega) ?_ | refine oEq ?_ | refine oEqS ?_) | (refine is_neq ?_; first | refine oNeT (by omega) ?_ | refine oNeF (by omega) ?_ | refine oNe ?_ | refine oNeS ?_) | (refine is_add ?_; first | refine oAdd (by omega) (by omega) ?_ | refine oCatS (by omega) ?_ | refine oAddW ?_) | (refine is_sub ?_; first | refine oSub (by omega) (by omega) ?_ | refine oSubW ?_) | (refine is_mul ?_; first | refine oMul (by omega) (by omega) ?_ | refine oMulW ?_) | refine oBin rfl ?_) | refine oLenD ?_) | (refine isLd ?_; first | refine oLW rfl ?_ | refine oL rfl ?_) | (refine isSt ?_; first | refine oSW rfl rfl rfl ?_ | refine oS rfl rfl rfl (by (try simp only [nth, List.getD_cons_zero, List.getD_cons_succ, bldV, placeIn, wrCells, rep, Value.cells, aggV, List.set_cons_zero, List.set_cons_succ, List.length_cons, List.length_nil, List.nil_append, List.cons_append, List.append_nil, List.size_toArray, Option.bind_some, Nat.reduceAdd, Nat.reduceMul, Nat.reduceLeDiff, Nat.reduceEqDiff, Nat.zero_le, Nat.le_refl, true_and, and_self, and_true, if_true]); first | done | rfl) ?_) | (refine isVB ?_; first | refine ent_true ?_ | refine ent_false ?_) | (refine oN fun nb => ?_) | (refine isRdK ?_; first | refine rdkW rfl ?_ | refine rdk rfl ?_) | (refine isAnd ?_; refine oA (by first | exact ent_undef | (refine oL rfl ?_; exact ent_Is)) ?_))
  (try refine oLenD ?_)
  refine Ent.mk0 dI (b := nb) (by first | exact P0 | exact P1 | exact P2) ?_
  refine ent_VL (X := Nat × Value) (fun x => [x.2, .int .i64 x.1]) (fun x => x.1 ≤ (hasL F.parts).length) (fun x => (hasL F.parts).length - x.1)
    (fun x => [OV dI x.2 (((hasL F.parts).take x.1).foldl lkF ([], 0)).1]) (0, _) rfl (Nat.zero_le _) (by repeat (first | exact .nil | apply Picks.cons (by first | exact Pick.ro (by repeat (first | exact has_here | apply has_there)) | exact .per | ((repeat (first | exact Pick.here | apply Pick.there)); done) | (apply Pick.avO; (repeat (first | exact Pick.here | apply Pick.there)); done) | exact Pick.avL (by repeat (first | exact has_here | apply has_there))) | exact Picks.all _)) ?_
  rintro ⟨i, o⟩ hi j
  dsimp only [List.cons_append, List.nil_append] at hi ⊢
  (try dsimp only [List.cons_append, List.nil_append, List.append]); repeat (first | (refine isO ?_; first | refine oExt rfl ?_ | refine ent_O rfl ?_ | refine oAgg (by (try simp only [nth, List.getD_cons_zero, List.getD_cons_succ, bldV, placeIn, wrCells, rep, Value.cells, aggV, List.set_cons_zero, List.set_cons_succ, List.length_cons, List.length_nil, List.nil_append, List.cons_append, List.append_nil, List.size_toArray, Option.bind_some, Nat.reduceAdd, Nat.reduceMul, Nat.reduceLeDiff, Nat.reduceEqDiff, Nat.zero_le, Nat.le_refl, true_and, and_self, and_true, if_true]); first | done | rfl) ?_ | refine oMin ?_ | refine oMax ?_ | (refine isCv ?_; first | refine oCv (by omega) (by omega) ?_ | refine oCvW ?_) | (refine isBin ?_; first | (refine is_lss ?_; first | refine oLsT (by omega) ?_ | refine oLsF (by omega) ?_ | refine oLs ?_) | (refine is_leq ?_; first | refine oLeT (by omega) ?_ | refine oLeF (by omega) ?_ | refine oLe ?_) | (refine is_gtr ?_; first | refine oGtT (by omega) ?_ | refine oGtF (by omega) ?_ | refine oGt ?_) | (refine is_geq ?_; first | refine oGeT (by omega) ?_ | refine oGeF (by omega) ?_ | refine oGe ?_) | (refine is_eql ?_; first | refine oEqT (by omega) ?_ | refine oEqF (by omega) ?_ | refine oEq ?_ | refine oEqS ?_) | (refine is_neq ?_; first | refine oNeT (by omega) ?_ | refine oNeF (by omega) ?_ | refine oNe ?_ | refine oNeS ?_) | (refine is_add ?_; first | refine oAdd (by omega) (by omega) ?_ | refine oCatS (by omega) ?_ | refine oAddW ?_) | (refine is_sub ?_; first | refine oSub (by omega) (by omega) ?_ | refine oSubW ?_) | (refine is_mul ?_; first | refine oMul (by omega) (by omega) ?_ | refine oMulW ?_) | refine oBin rfl ?_) | refine oLenD ?_) | (refine isLd ?_; first | refine oLW rfl ?_ | refine oL rfl ?_) | (refine isSt ?_; first | refine oSW rfl rfl rfl ?_ | refine oS rfl rfl rfl (by (try simp only [nth, List.getD_cons_zero, List.getD_cons_succ, bldV, placeIn, wrCells, rep, Value.cells, aggV, List.set_cons_zero, List.set_cons_succ, List.length_cons, List.length_nil, List.nil_append, List.cons_append, List.append_nil, List.size_toArray, Option.bind_some, Nat.reduceAdd, Nat.reduceMul, Nat.reduceLeDiff, Nat.reduceEqDiff, Nat.zero_le, Nat.le_refl, true_and, and_self, and_true, if_true]); first | done | rfl) ?_) | (refine isVB ?_; first | refine ent_true ?_ | refine ent_false ?_) | (refine oN fun nb => ?_) | (refine isRdK ?_; first | refine rdkW rfl ?_ | refine rdk rfl ?_) | (refine isAnd ?_; refine oA (by first | exact ent_undef | (refine oL rfl ?_; exact ent_Is)) ?_))
  refine oI (fun hlt => ?_) fun hge => ?_
  · have hlt' : i < (hasL F.parts).length := by omega
    refine ent_VJ' ?_
    refine oAtP i rfl hlt' fun y hy => ?_
    (try dsimp only [List.cons_append, List.nil_append, List.append]); repeat (first | (refine isO ?_; first | refine oExt rfl ?_ | refine ent_O rfl ?_ | refine oAgg (by (try simp only [nth, List.getD_cons_zero, List.getD_cons_succ, bldV, placeIn, wrCells, rep, Value.cells, aggV, List.set_cons_zero, List.set_cons_succ, List.length_cons, List.length_nil, List.nil_append, List.cons_append, List.append_nil, List.size_toArray, Option.bind_some, Nat.reduceAdd, Nat.reduceMul, Nat.reduceLeDiff, Nat.reduceEqDiff, Nat.zero_le, Nat.le_refl, true_and, and_self, and_true, if_true]); first | done | rfl) ?_ | refine oMin ?_ | refine oMax ?_ | (refine isCv ?_; first | refine oCv (by omega) (by omega) ?_ | refine oCvW ?_) | (refine isBin ?_; first | (refine is_lss ?_; first | refine oLsT (by omega) ?_ | refine oLsF (by omega) ?_ | refine oLs ?_) | (refine is_leq ?_; first | refine oLeT (by omega) ?_ | refine oLeF (by omega) ?_ | refine oLe ?_) | (refine is_gtr ?_; first | refine oGtT (by omega) ?_ | refine oGtF (by omega) ?_ | refine oGt ?_) | (refine is_geq ?_; first | refine oGeT (by omega) ?_ | refine oGeF (by omega) ?_ | refine oGe ?_) | (refine is_eql ?_; first | refine oEqT (by omega) ?_ | refine oEqF (by omega) ?_ | refine oEq ?_ | refine oEqS ?_) | (refine is_neq ?_; first | refine oNeT (by omega) ?_ | refine oNeF (by omega) ?_ | refine oNe ?_ | refine oNeS ?_) | (refine is_add ?_; first | refine oAdd (by omega) (by omega) ?_ | refine oCatS (by omega) ?_ | refine oAddW ?_) | (refine is_sub ?_; first | refine oSub (by omega) (by omega) ?_ | refine oSubW ?_) | (refine is_mul ?_; first | refine oMul (by omega) (by omega) ?_ | refine oMulW ?_) | refine oBin rfl ?_) | refine oLenD ?_) | (refine isLd ?_; first | refine oLW rfl ?_ | refine oL rfl ?_) | (refine isSt ?_; first | refine oSW rfl rfl rfl ?_ | refine oS rfl rfl rfl (by (try simp only [nth, List.getD_cons_zero, List.getD_cons_succ, bldV, placeIn, wrCells, rep, Value.cells, aggV, List.set_cons_zero, List.set_cons_succ, List.length_cons, List.length_nil, List.nil_append, List.cons_append, List.append_nil, List.size_toArray, Option.bind_some, Nat.reduceAdd, Nat.reduceMul, Nat.reduceLeDiff, Nat.reduceEqDiff, Nat.zero_le, Nat.le_refl, true_and, and_self, and_true, if_true]); first | done | rfl) ?_) | (refine isVB ?_; first | refine ent_true ?_ | refine ent_false ?_) | (refine oN fun nb => ?_) | (refine isRdK ?_; first | refine rdkW rfl ?_ | refine rdk rfl ?_) | (refine isAnd ?_; refine oA (by first | exact ent_undef | (refine oL rfl ?_; exact ent_Is)) ?_))
    have hs := fold_take (step := lkF) (s0 := ([], 0)) hy
    have h2 : ∀ n, ((hasL F.parts).take n).length = n → (((hasL F.parts).take n).foldl lkF ([], 0)).2 = n := fun n hn => by rw [lk_snd, hn]; simp
    have h2 := h2 i (by rw [List.length_take]; omega)
    have h3 := lk_len (((hasL F.parts).take i)) [] 0
    refine ent_VB (b := !y) (fun e => ?_) fun e => ?_
    · have : y = false := by simpa using e
      subst this
      refine oBS (by (try simp only [nth, List.getD_cons_zero, List.getD_cons_succ, bldV, placeIn, wrCells, rep, Value.cells, aggV, List.set_cons_zero, List.set_cons_succ, List.length_cons, List.length_nil, List.nil_append, List.cons_append, List.append_nil, List.size_toArray, Option.bind_some, Nat.reduceAdd, Nat.reduceMul, Nat.reduceLeDiff, Nat.reduceEqDiff, Nat.zero_le, Nat.le_refl, true_and, and_self, and_true, if_true]); first | done | rfl) fun nb2 => ?_
      refine oPushD (s := o) (by rfl) (by rfl) (by rfl) (by decide) (i : Int) (fun h s => rfl) (by simp only [List.length_nil] at h3; rw [List.length_take] at h3; omega) fun o' => ?_
      refine ent_all fun _ => ?_
      (try dsimp only [List.cons_append, List.nil_append, List.append]); repeat (first | (refine isO ?_; first | refine oExt rfl ?_ | refine ent_O rfl ?_ | refine oAgg (by (try simp only [nth, List.getD_cons_zero, List.getD_cons_succ, bldV, placeIn, wrCells, rep, Value.cells, aggV, List.set_cons_zero, List.set_cons_succ, List.length_cons, List.length_nil, List.nil_append, List.cons_append, List.append_nil, List.size_toArray, Option.bind_some, Nat.reduceAdd, Nat.reduceMul, Nat.reduceLeDiff, Nat.reduceEqDiff, Nat.zero_le, Nat.le_refl, true_and, and_self, and_true, if_true]); first | done | rfl) ?_ | refine oMin ?_ | refine oMax ?_ | (refine isCv ?_; first | refine oCv (by omega) (by omega) ?_ | refine oCvW ?_) | (refine isBin ?_; first | (refine is_lss ?_; first | refine oLsT (by omega) ?_ | refine oLsF (by omega) ?_ | refine oLs ?_) | (refine is_leq ?_; first | refine oLeT (by omega) ?_ | refine oLeF (by omega) ?_ | refine oLe ?_) | (refine is_gtr ?_; first | refine oGtT (by omega) ?_ | refine oGtF (by omega) ?_ | refine oGt ?_) | (refine is_geq ?_; first | refine oGeT (by omega) ?_ | refine oGeF (by omega) ?_ | refine oGe ?_) | (refine is_eql ?_; first | refine oEqT (by omega) ?_ | refine oEqF (by omega) ?_ | refine oEq ?_ | refine oEqS ?_) | (refine is_neq ?_; first | refine oNeT (by omega) ?_ | refine oNeF (by omega) ?_ | refine oNe ?_ | refine oNeS ?_) | (refine is_add ?_; first | refine oAdd (by omega) (by omega) ?_ | refine oCatS (by omega) ?_ | refine oAddW ?_) | (refine is_sub ?_; first | refine oSub (by omega) (by omega) ?_ | refine oSubW ?_) | (refine is_mul ?_; first | refine oMul (by omega) (by omega) ?_ | refine oMulW ?_) | refine oBin rfl ?_) | refine oLenD ?_) | (refine isLd ?_; first | refine oLW rfl ?_ | refine oL rfl ?_) | (refine isSt ?_; first | refine oSW rfl rfl rfl ?_ | refine oS rfl rfl rfl (by (try simp only [nth, List.getD_cons_zero, List.getD_cons_succ, bldV, placeIn, wrCells, rep, Value.cells, aggV, List.set_cons_zero, List.set_cons_succ, List.length_cons, List.length_nil, List.nil_append, List.cons_append, List.append_nil, List.size_toArray, Option.bind_some, Nat.reduceAdd, Nat.reduceMul, Nat.reduceLeDiff, Nat.reduceEqDiff, Nat.zero_le, Nat.le_refl, true_and, and_self, and_true, if_true]); first | done | rfl) ?_) | (refine isVB ?_; first | refine ent_true ?_ | refine ent_false ?_) | (refine oN fun nb => ?_) | (refine isRdK ?_; first | refine rdkW rfl ?_ | refine rdk rfl ?_) | (refine isAnd ?_; refine oA (by first | exact ent_undef | (refine oL rfl ?_; exact ent_Is)) ?_))
      exact ent_again (i + 1, o') (by rfl) hlt' (by dsimp only; omega) (by dsimp only; rw [hs]; simp only [lkF, h2, Bool.false_eq_true, if_false]; exact (by repeat (first | exact .nil | apply Picks.cons (by first | exact Pick.ro (by repeat (first | exact has_here | apply has_there)) | exact .per | ((repeat (first | exact Pick.here | apply Pick.there)); done) | (apply Pick.avO; (repeat (first | exact Pick.here | apply Pick.there)); done) | exact Pick.avL (by repeat (first | exact has_here | apply has_there))) | exact Picks.all _)))
    · have : y = true := by simpa using e
      subst this
      refine ent_all fun _ => ?_
      (try dsimp only [List.cons_append, List.nil_append, List.append]); repeat (first | (refine isO ?_; first | refine oExt rfl ?_ | refine ent_O rfl ?_ | refine oAgg (by (try simp only [nth, List.getD_cons_zero, List.getD_cons_succ, bldV, placeIn, wrCells, rep, Value.cells, aggV, List.set_cons_zero, List.set_cons_succ, List.length_cons, List.length_nil, List.nil_append, List.cons_append, List.append_nil, List.size_toArray, Option.bind_some, Nat.reduceAdd, Nat.reduceMul, Nat.reduceLeDiff, Nat.reduceEqDiff, Nat.zero_le, Nat.le_refl, true_and, and_self, and_true, if_true]); first | done | rfl) ?_ | refine oMin ?_ | refine oMax ?_ | (refine isCv ?_; first | refine oCv (by omega) (by omega) ?_ | refine oCvW ?_) | (refine isBin ?_; first | (refine is_lss ?_; first | refine oLsT (by omega) ?_ | refine oLsF (by omega) ?_ | refine oLs ?_) | (refine is_leq ?_; first | refine oLeT (by omega) ?_ | refine oLeF (by omega) ?_ | refine oLe ?_) | (refine is_gtr ?_; first | refine oGtT (by omega) ?_ | refine oGtF (by omega) ?_ | refine oGt ?_) | (refine is_geq ?_; first | refine oGeT (by omega) ?_ | refine oGeF (by omega) ?_ | refine oGe ?_) | (refine is_eql ?_; first | refine oEqT (by omega) ?_ | refine oEqF (by omega) ?_ | refine oEq ?_ | refine oEqS ?_) | (refine is_neq ?_; first | refine oNeT (by omega) ?_ | refine oNeF (by omega) ?_ | refine oNe ?_ | refine oNeS ?_) | (refine is_add ?_; first | refine oAdd (by omega) (by omega) ?_ | refine oCatS (by omega) ?_ | refine oAddW ?_) | (refine is_sub ?_; first | refine oSub (by omega) (by omega) ?_ | refine oSubW ?_) | (refine is_mul ?_; first | refine oMul (by omega) (by omega) ?_ | refine oMulW ?_) | refine oBin rfl ?_) | refine oLenD ?_) | (refine isLd ?_; first | refine oLW rfl ?_ | refine oL rfl ?_) | (refine isSt ?_; first | refine oSW rfl rfl rfl ?_ | refine oS rfl rfl rfl (by (try simp only [nth, List.getD_cons_zero, List.getD_cons_succ, bldV, placeIn, wrCells, rep, Value.cells, aggV, List.set_cons_zero, List.set_cons_succ, List.length_cons, List.length_nil, List.nil_append, List.cons_append, List.append_nil, List.size_toArray, Option.bind_some, Nat.reduceAdd, Nat.reduceMul, Nat.reduceLeDiff, Nat.reduceEqDiff, Nat.zero_le, Nat.le_refl, true_and, and_self, and_true, if_true]); first | done | rfl) ?_) | (refine isVB ?_; first | refine ent_true ?_ | refine ent_false ?_) | (refine oN fun nb => ?_) | (refine isRdK ?_; first | refine rdkW rfl ?_ | refine rdk rfl ?_) | (refine isAnd ?_; refine oA (by first | exact ent_undef | (refine oL rfl ?_; exact ent_Is)) ?_))
      exact ent_again (i + 1, o) (by rfl) hlt' (by dsimp only; omega) (by dsimp only; rw [hs]; simp only [lkF, if_true]; exact (by repeat (first | exact .nil | apply Picks.cons (by first | exact Pick.ro (by repeat (first | exact has_here | apply has_there)) | exact .per | ((repeat (first | exact Pick.here | apply Pick.there)); done) | (apply Pick.avO; (repeat (first | exact Pick.here | apply Pick.there)); done) | exact Pick.avL (by repeat (first | exact has_here | apply has_there))) | exact Picks.all _)))
  · have : i = (hasL F.parts).length := by omega
    subst this
    rw [List.take_length]
    exact ent_ret (o) (by rfl) (by trivial) (Shift.of_picks (by repeat (first | exact .nil | apply Picks.cons (by first | exact Pick.ro (by repeat (first | exact has_here | apply has_there)) | exact .per | ((repeat (first | exact Pick.here | apply Pick.there)); done) | (apply Pick.avO; (repeat (first | exact Pick.here | apply Pick.there)); done) | exact Pick.avL (by repeat (first | exact has_here | apply has_there))) | exact Picks.all _)))
end Go.Proofs.Ytndanmhgbfjinaa
namespace Go.Proofs.Ytndanmhgbfjinaa
open Go Go.Sl Go.Cd
attribute [local irreducible] Try.prog cl ro mp mpI clT RowP FrP Big LV OV AV O Ld St Nw VB BS Cl Rd Runs OpR VJ VL RdK MSl Cv And2 binV cvV minV maxV aggO
theorem catP_fold (ps : List (Option ByteArray)) : ∀ s, (strL ps).foldl (· ++ ·) s = s ++ catP ps := by
  induction ps with
  | nil => intro s; show s = s ++ ByteArray.empty; simp
  | cons p ps ih =>
    intro s
    show (strL ps).foldl (· ++ ·) (s ++ p.getD ⟨#[]⟩) = _
    rw [ih]
    cases p with
    | none => show s ++ ByteArray.empty ++ catP ps = s ++ catP ps; simp
    | some x => simp [catP, ByteArray.append_assoc]
theorem lk_length (ps : List (Option ByteArray)) : (lk ps).length + haveN ps = ps.length := by
  have key : ∀ (ps : List (Option ByteArray)) (a : List Int) (n : Nat), ((hasL ps).foldl lkF (a, n)).1.length + haveN ps = a.length + ps.length := by
    intro ps
    induction ps with
    | nil => intro a n; rfl
    | cons p ps ih =>
      intro a n
      show ((hasL ps).foldl lkF (lkF (a, n) p.isSome)).1.length + _ = _
      have := ih (lkF (a, n) p.isSome).1 (lkF (a, n) p.isSome).2
      cases p with
      | none => simp [lkF, haveN] at this ⊢; omega
      | some x => simp [lkF, haveN] at this ⊢; omega
  have := key ps [] 0
  rw [List.length_nil, Nat.zero_add] at this
  exact this
theorem data_ref (F : AF) (cs : List Value) (hl : F.parts.length ≤ 255) (hB : bytesN F.parts ≤ 70368744177664) : Ctr Try.prog 51 [.agg cs.toArray] [dF.rep F cs] (fun _ : Unit => .tuple #[.string F.data, .int .i64 (bytesN F.parts)]) (fun _ => True) (fun _ => []) := by
  refine ctr_of e51 ?_
  refine Ent.add (A := dF.rep F cs) (by repeat (first | exact has_here | apply has_there)) ?_
  refine Ent.openX P0 dF.open fun v e => ?_
  subst e
  have hl' : (strL F.parts).length = F.parts.length := by unfold strL; rw [List.length_map]
  unfold S51
  refine oN fun b => ?_
  (try dsimp only [List.cons_append, List.nil_append, List.append]); repeat (first | (refine isO ?_; first | refine oExt rfl ?_ | refine ent_O rfl ?_ | refine oAgg (by (try simp only [nth, List.getD_cons_zero, List.getD_cons_succ, bldV, placeIn, wrCells, rep, Value.cells, aggV, List.set_cons_zero, List.set_cons_succ, List.length_cons, List.length_nil, List.nil_append, List.cons_append, List.append_nil, List.size_toArray, Option.bind_some, Nat.reduceAdd, Nat.reduceMul, Nat.reduceLeDiff, Nat.reduceEqDiff, Nat.zero_le, Nat.le_refl, true_and, and_self, and_true, if_true]); first | done | rfl) ?_ | refine oMin ?_ | refine oMax ?_ | (refine isCv ?_; first | refine oCv (by omega) (by omega) ?_ | refine oCvW ?_) | (refine isBin ?_; first | (refine is_lss ?_; first | refine oLsT (by omega) ?_ | refine oLsF (by omega) ?_ | refine oLs ?_) | (refine is_leq ?_; first | refine oLeT (by omega) ?_ | refine oLeF (by omega) ?_ | refine oLe ?_) | (refine is_gtr ?_; first | refine oGtT (by omega) ?_ | refine oGtF (by omega) ?_ | refine oGt ?_) | (refine is_geq ?_; first | refine oGeT (by omega) ?_ | refine oGeF (by omega) ?_ | refine oGe ?_) | (refine is_eql ?_; first | refine oEqT (by omega) ?_ | refine oEqF (by omega) ?_ | refine oEq ?_ | refine oEqS ?_) | (refine is_neq ?_; first | refine oNeT (by omega) ?_ | refine oNeF (by omega) ?_ | refine oNe ?_ | refine oNeS ?_) | (refine is_add ?_; first | refine oAdd (by omega) (by omega) ?_ | refine oCatS (by omega) ?_ | refine oAddW ?_) | (refine is_sub ?_; first | refine oSub (by omega) (by omega) ?_ | refine oSubW ?_) | (refine is_mul ?_; first | refine oMul (by omega) (by omega) ?_ | refine oMulW ?_) | refine oBin rfl ?_) | refine oLenD ?_) | (refine isLd ?_; first | refine oLW rfl ?_ | refine oL rfl ?_) | (refine isSt ?_; first | refine oSW rfl rfl rfl ?_ | refine oS rfl rfl rfl (by (try simp only [nth, List.getD_cons_zero, List.getD_cons_succ, bldV, placeIn, wrCells, rep, Value.cells, aggV, List.set_cons_zero, List.set_cons_succ, List.length_cons, List.length_nil, List.nil_append, List.cons_append, List.append_nil, List.size_toArray, Option.bind_some, Nat.reduceAdd, Nat.reduceMul, Nat.reduceLeDiff, Nat.reduceEqDiff, Nat.zero_le, Nat.le_refl, true_and, and_self, and_true, if_true]); first | done | rfl) ?_) | (refine isVB ?_; first | refine ent_true ?_ | refine ent_false ?_) | (refine oN fun nb => ?_) | (refine isRdK ?_; first | refine rdkW rfl ?_ | refine rdk rfl ?_) | (refine isAnd ?_; refine oA (by first | exact ent_undef | (refine oL rfl ?_; exact ent_Is)) ?_))
  (try refine oLenD ?_)
  refine ent_range (S := Unit) (strL F.parts).length (fun i _ => [.string (((strL F.parts).take i).foldl (· ++ ·) ⟨#[]⟩), .int .i64 i]) (fun _ _ => True) (fun _ _ => []) () rfl trivial (by repeat (first | exact .nil | apply Picks.cons (by first | exact Pick.ro (by repeat (first | exact has_here | apply has_there)) | exact .per | ((repeat (first | exact Pick.here | apply Pick.there)); done) | (apply Pick.avO; (repeat (first | exact Pick.here | apply Pick.there)); done) | exact Pick.avL (by repeat (first | exact has_here | apply has_there))) | exact Picks.all _)) ?_ ?_
  · intro i _ _ hi j kk ag
    (try dsimp only [List.cons_append, List.nil_append, List.append]); repeat (first | (refine isO ?_; first | refine oExt rfl ?_ | refine ent_O rfl ?_ | refine oAgg (by (try simp only [nth, List.getD_cons_zero, List.getD_cons_succ, bldV, placeIn, wrCells, rep, Value.cells, aggV, List.set_cons_zero, List.set_cons_succ, List.length_cons, List.length_nil, List.nil_append, List.cons_append, List.append_nil, List.size_toArray, Option.bind_some, Nat.reduceAdd, Nat.reduceMul, Nat.reduceLeDiff, Nat.reduceEqDiff, Nat.zero_le, Nat.le_refl, true_and, and_self, and_true, if_true]); first | done | rfl) ?_ | refine oMin ?_ | refine oMax ?_ | (refine isCv ?_; first | refine oCv (by omega) (by omega) ?_ | refine oCvW ?_) | (refine isBin ?_; first | (refine is_lss ?_; first | refine oLsT (by omega) ?_ | refine oLsF (by omega) ?_ | refine oLs ?_) | (refine is_leq ?_; first | refine oLeT (by omega) ?_ | refine oLeF (by omega) ?_ | refine oLe ?_) | (refine is_gtr ?_; first | refine oGtT (by omega) ?_ | refine oGtF (by omega) ?_ | refine oGt ?_) | (refine is_geq ?_; first | refine oGeT (by omega) ?_ | refine oGeF (by omega) ?_ | refine oGe ?_) | (refine is_eql ?_; first | refine oEqT (by omega) ?_ | refine oEqF (by omega) ?_ | refine oEq ?_ | refine oEqS ?_) | (refine is_neq ?_; first | refine oNeT (by omega) ?_ | refine oNeF (by omega) ?_ | refine oNe ?_ | refine oNeS ?_) | (refine is_add ?_; first | refine oAdd (by omega) (by omega) ?_ | refine oCatS (by omega) ?_ | refine oAddW ?_) | (refine is_sub ?_; first | refine oSub (by omega) (by omega) ?_ | refine oSubW ?_) | (refine is_mul ?_; first | refine oMul (by omega) (by omega) ?_ | refine oMulW ?_) | refine oBin rfl ?_) | refine oLenD ?_) | (refine isLd ?_; first | refine oLW rfl ?_ | refine oL rfl ?_) | (refine isSt ?_; first | refine oSW rfl rfl rfl ?_ | refine oS rfl rfl rfl (by (try simp only [nth, List.getD_cons_zero, List.getD_cons_succ, bldV, placeIn, wrCells, rep, Value.cells, aggV, List.set_cons_zero, List.set_cons_succ, List.length_cons, List.length_nil, List.nil_append, List.cons_append, List.append_nil, List.size_toArray, Option.bind_some, Nat.reduceAdd, Nat.reduceMul, Nat.reduceLeDiff, Nat.reduceEqDiff, Nat.zero_le, Nat.le_refl, true_and, and_self, and_true, if_true]); first | done | rfl) ?_) | (refine isVB ?_; first | refine ent_true ?_ | refine ent_false ?_) | (refine oN fun nb => ?_) | (refine isRdK ?_; first | refine rdkW rfl ?_ | refine rdk rfl ?_) | (refine isAnd ?_; refine oA (by first | exact ent_undef | (refine oL rfl ?_; exact ent_Is)) ?_))
    refine oAtP i rfl hi fun y hy => ?_
    have := fold_take (step := (· ++ ·)) (s0 := (⟨#[]⟩ : ByteArray)) hy
    rw [this] at ag
    have hz : (((strL F.parts).take i).foldl (· ++ ·) (⟨#[]⟩ : ByteArray)).size + y.size ≤ bytesN F.parts := by
      have h1 : (((strL F.parts).take (i + 1)).foldl (· ++ ·) (⟨#[]⟩ : ByteArray)).size ≤ bytesN F.parts := by
        unfold strL
        rw [← List.map_take]
        have := catP_fold (F.parts.take (i + 1)) ⟨#[]⟩
        unfold strL at this
        rw [this]
        show (ByteArray.empty ++ catP _).size ≤ _
        rw [ByteArray.empty_append, catP_size]
        exact bytesN_take _ _
      rw [this, ByteArray.size_append] at h1; exact h1
    (try dsimp only [List.cons_append, List.nil_append, List.append]); repeat (first | (refine isO ?_; first | refine oExt rfl ?_ | refine ent_O rfl ?_ | refine oAgg (by (try simp only [nth, List.getD_cons_zero, List.getD_cons_succ, bldV, placeIn, wrCells, rep, Value.cells, aggV, List.set_cons_zero, List.set_cons_succ, List.length_cons, List.length_nil, List.nil_append, List.cons_append, List.append_nil, List.size_toArray, Option.bind_some, Nat.reduceAdd, Nat.reduceMul, Nat.reduceLeDiff, Nat.reduceEqDiff, Nat.zero_le, Nat.le_refl, true_and, and_self, and_true, if_true]); first | done | rfl) ?_ | refine oMin ?_ | refine oMax ?_ | (refine isCv ?_; first | refine oCv (by omega) (by omega) ?_ | refine oCvW ?_) | (refine isBin ?_; first | (refine is_lss ?_; first | refine oLsT (by omega) ?_ | refine oLsF (by omega) ?_ | refine oLs ?_) | (refine is_leq ?_; first | refine oLeT (by omega) ?_ | refine oLeF (by omega) ?_ | refine oLe ?_) | (refine is_gtr ?_; first | refine oGtT (by omega) ?_ | refine oGtF (by omega) ?_ | refine oGt ?_) | (refine is_geq ?_; first | refine oGeT (by omega) ?_ | refine oGeF (by omega) ?_ | refine oGe ?_) | (refine is_eql ?_; first | refine oEqT (by omega) ?_ | refine oEqF (by omega) ?_ | refine oEq ?_ | refine oEqS ?_) | (refine is_neq ?_; first | refine oNeT (by omega) ?_ | refine oNeF (by omega) ?_ | refine oNe ?_ | refine oNeS ?_) | (refine is_add ?_; first | refine oAdd (by omega) (by omega) ?_ | refine oCatS (by omega) ?_ | refine oAddW ?_) | (refine is_sub ?_; first | refine oSub (by omega) (by omega) ?_ | refine oSubW ?_) | (refine is_mul ?_; first | refine oMul (by omega) (by omega) ?_ | refine oMulW ?_) | refine oBin rfl ?_) | refine oLenD ?_) | (refine isLd ?_; first | refine oLW rfl ?_ | refine oL rfl ?_) | (refine isSt ?_; first | refine oSW rfl rfl rfl ?_ | refine oS rfl rfl rfl (by (try simp only [nth, List.getD_cons_zero, List.getD_cons_succ, bldV, placeIn, wrCells, rep, Value.cells, aggV, List.set_cons_zero, List.set_cons_succ, List.length_cons, List.length_nil, List.nil_append, List.cons_append, List.append_nil, List.size_toArray, Option.bind_some, Nat.reduceAdd, Nat.reduceMul, Nat.reduceLeDiff, Nat.reduceEqDiff, Nat.zero_le, Nat.le_refl, true_and, and_self, and_true, if_true]); first | done | rfl) ?_) | (refine isVB ?_; first | refine ent_true ?_ | refine ent_false ?_) | (refine oN fun nb => ?_) | (refine isRdK ?_; first | refine rdkW rfl ?_ | refine rdk rfl ?_) | (refine isAnd ?_; refine oA (by first | exact ent_undef | (refine oL rfl ?_; exact ent_Is)) ?_))
    exact Ent.again (ag () trivial) (by rfl) (by repeat (first | exact .nil | apply Picks.cons (by first | exact Pick.ro (by repeat (first | exact has_here | apply has_there)) | exact .per | ((repeat (first | exact Pick.here | apply Pick.there)); done) | (apply Pick.avO; (repeat (first | exact Pick.here | apply Pick.there)); done) | exact Pick.avL (by repeat (first | exact has_here | apply has_there))) | exact Picks.all _))
  · intro _ _ j kk
    rw [List.take_length, catP_fold]
    (try dsimp only [List.cons_append, List.nil_append, List.append]); repeat (first | (refine isO ?_; first | refine oExt rfl ?_ | refine ent_O rfl ?_ | refine oAgg (by (try simp only [nth, List.getD_cons_zero, List.getD_cons_succ, bldV, placeIn, wrCells, rep, Value.cells, aggV, List.set_cons_zero, List.set_cons_succ, List.length_cons, List.length_nil, List.nil_append, List.cons_append, List.append_nil, List.size_toArray, Option.bind_some, Nat.reduceAdd, Nat.reduceMul, Nat.reduceLeDiff, Nat.reduceEqDiff, Nat.zero_le, Nat.le_refl, true_and, and_self, and_true, if_true]); first | done | rfl) ?_ | refine oMin ?_ | refine oMax ?_ | (refine isCv ?_; first | refine oCv (by omega) (by omega) ?_ | refine oCvW ?_) | (refine isBin ?_; first | (refine is_lss ?_; first | refine oLsT (by omega) ?_ | refine oLsF (by omega) ?_ | refine oLs ?_) | (refine is_leq ?_; first | refine oLeT (by omega) ?_ | refine oLeF (by omega) ?_ | refine oLe ?_) | (refine is_gtr ?_; first | refine oGtT (by omega) ?_ | refine oGtF (by omega) ?_ | refine oGt ?_) | (refine is_geq ?_; first | refine oGeT (by omega) ?_ | refine oGeF (by omega) ?_ | refine oGe ?_) | (refine is_eql ?_; first | refine oEqT (by omega) ?_ | refine oEqF (by omega) ?_ | refine oEq ?_ | refine oEqS ?_) | (refine is_neq ?_; first | refine oNeT (by omega) ?_ | refine oNeF (by omega) ?_ | refine oNe ?_ | refine oNeS ?_) | (refine is_add ?_; first | refine oAdd (by omega) (by omega) ?_ | refine oCatS (by omega) ?_ | refine oAddW ?_) | (refine is_sub ?_; first | refine oSub (by omega) (by omega) ?_ | refine oSubW ?_) | (refine is_mul ?_; first | refine oMul (by omega) (by omega) ?_ | refine oMulW ?_) | refine oBin rfl ?_) | refine oLenD ?_) | (refine isLd ?_; first | refine oLW rfl ?_ | refine oL rfl ?_) | (refine isSt ?_; first | refine oSW rfl rfl rfl ?_ | refine oS rfl rfl rfl (by (try simp only [nth, List.getD_cons_zero, List.getD_cons_succ, bldV, placeIn, wrCells, rep, Value.cells, aggV, List.set_cons_zero, List.set_cons_succ, List.length_cons, List.length_nil, List.nil_append, List.cons_append, List.append_nil, List.size_toArray, Option.bind_some, Nat.reduceAdd, Nat.reduceMul, Nat.reduceLeDiff, Nat.reduceEqDiff, Nat.zero_le, Nat.le_refl, true_and, and_self, and_true, if_true]); first | done | rfl) ?_) | (refine isVB ?_; first | refine ent_true ?_ | refine ent_false ?_) | (refine oN fun nb => ?_) | (refine isRdK ?_; first | refine rdkW rfl ?_ | refine rdk rfl ?_) | (refine isAnd ?_; refine oA (by first | exact ent_undef | (refine oL rfl ?_; exact ent_Is)) ?_))
    refine Ctr.use (lacks_fn F _ hl) (by repeat (first | exact .nil | apply Picks.cons (by first | exact Pick.ro (by repeat (first | exact has_here | apply has_there)) | exact .per | ((repeat (first | exact Pick.here | apply Pick.there)); done) | (apply Pick.avO; (repeat (first | exact Pick.here | apply Pick.there)); done) | exact Pick.avL (by repeat (first | exact has_here | apply has_there))) | exact Picks.all _)) fun v _ => ?_
    (try dsimp only [List.cons_append, List.nil_append, List.append])
    (try refine oLenD ?_)
    have hk := lk_length F.parts
    have hs : (⟨#[]⟩ ++ catP F.parts : ByteArray) = catP F.parts := by show ByteArray.empty ++ _ = _; simp
    rw [hs]
    have hsz := catP_size F.parts
    by_cases hw : haveN F.parts = F.parts.length
    · have hd : F.data = catP F.parts := by simp [AF.data, AF.whole, hw]
      have h0 : (lk F.parts).length = 0 := by omega
      rw [h0, hd, ← hsz]
      (try dsimp only [List.cons_append, List.nil_append, List.append]); repeat (first | (refine isO ?_; first | refine oExt rfl ?_ | refine ent_O rfl ?_ | refine oAgg (by (try simp only [nth, List.getD_cons_zero, List.getD_cons_succ, bldV, placeIn, wrCells, rep, Value.cells, aggV, List.set_cons_zero, List.set_cons_succ, List.length_cons, List.length_nil, List.nil_append, List.cons_append, List.append_nil, List.size_toArray, Option.bind_some, Nat.reduceAdd, Nat.reduceMul, Nat.reduceLeDiff, Nat.reduceEqDiff, Nat.zero_le, Nat.le_refl, true_and, and_self, and_true, if_true]); first | done | rfl) ?_ | refine oMin ?_ | refine oMax ?_ | (refine isCv ?_; first | refine oCv (by omega) (by omega) ?_ | refine oCvW ?_) | (refine isBin ?_; first | (refine is_lss ?_; first | refine oLsT (by omega) ?_ | refine oLsF (by omega) ?_ | refine oLs ?_) | (refine is_leq ?_; first | refine oLeT (by omega) ?_ | refine oLeF (by omega) ?_ | refine oLe ?_) | (refine is_gtr ?_; first | refine oGtT (by omega) ?_ | refine oGtF (by omega) ?_ | refine oGt ?_) | (refine is_geq ?_; first | refine oGeT (by omega) ?_ | refine oGeF (by omega) ?_ | refine oGe ?_) | (refine is_eql ?_; first | refine oEqT (by omega) ?_ | refine oEqF (by omega) ?_ | refine oEq ?_ | refine oEqS ?_) | (refine is_neq ?_; first | refine oNeT (by omega) ?_ | refine oNeF (by omega) ?_ | refine oNe ?_ | refine oNeS ?_) | (refine is_add ?_; first | refine oAdd (by omega) (by omega) ?_ | refine oCatS (by omega) ?_ | refine oAddW ?_) | (refine is_sub ?_; first | refine oSub (by omega) (by omega) ?_ | refine oSubW ?_) | (refine is_mul ?_; first | refine oMul (by omega) (by omega) ?_ | refine oMulW ?_) | refine oBin rfl ?_) | refine oLenD ?_) | (refine isLd ?_; first | refine oLW rfl ?_ | refine oL rfl ?_) | (refine isSt ?_; first | refine oSW rfl rfl rfl ?_ | refine oS rfl rfl rfl (by (try simp only [nth, List.getD_cons_zero, List.getD_cons_succ, bldV, placeIn, wrCells, rep, Value.cells, aggV, List.set_cons_zero, List.set_cons_succ, List.length_cons, List.length_nil, List.nil_append, List.cons_append, List.append_nil, List.size_toArray, Option.bind_some, Nat.reduceAdd, Nat.reduceMul, Nat.reduceLeDiff, Nat.reduceEqDiff, Nat.zero_le, Nat.le_refl, true_and, and_self, and_true, if_true]); first | done | rfl) ?_) | (refine isVB ?_; first | refine ent_true ?_ | refine ent_false ?_) | (refine oN fun nb => ?_) | (refine isRdK ?_; first | refine rdkW rfl ?_ | refine rdk rfl ?_) | (refine isAnd ?_; refine oA (by first | exact ent_undef | (refine oL rfl ?_; exact ent_Is)) ?_))
      exact ent_ret (()) (by rfl) (by trivial) (Shift.of_picks (by repeat (first | exact .nil | apply Picks.cons (by first | exact Pick.ro (by repeat (first | exact has_here | apply has_there)) | exact .per | ((repeat (first | exact Pick.here | apply Pick.there)); done) | (apply Pick.avO; (repeat (first | exact Pick.here | apply Pick.there)); done) | exact Pick.avL (by repeat (first | exact has_here | apply has_there))) | exact Picks.all _)))
    · have hd : F.data = ⟨#[]⟩ := by simp [AF.data, AF.whole, hw]
      have h0 : 0 < (lk F.parts).length := by have := haveN_le F.parts; omega
      rw [hd, ← hsz]
      (try dsimp only [List.cons_append, List.nil_append, List.append]); repeat (first | (refine isO ?_; first | refine oExt rfl ?_ | refine ent_O rfl ?_ | refine oAgg (by (try simp only [nth, List.getD_cons_zero, List.getD_cons_succ, bldV, placeIn, wrCells, rep, Value.cells, aggV, List.set_cons_zero, List.set_cons_succ, List.length_cons, List.length_nil, List.nil_append, List.cons_append, List.append_nil, List.size_toArray, Option.bind_some, Nat.reduceAdd, Nat.reduceMul, Nat.reduceLeDiff, Nat.reduceEqDiff, Nat.zero_le, Nat.le_refl, true_and, and_self, and_true, if_true]); first | done | rfl) ?_ | refine oMin ?_ | refine oMax ?_ | (refine isCv ?_; first | refine oCv (by omega) (by omega) ?_ | refine oCvW ?_) | (refine isBin ?_; first | (refine is_lss ?_; first | refine oLsT (by omega) ?_ | refine oLsF (by omega) ?_ | refine oLs ?_) | (refine is_leq ?_; first | refine oLeT (by omega) ?_ | refine oLeF (by omega) ?_ | refine oLe ?_) | (refine is_gtr ?_; first | refine oGtT (by omega) ?_ | refine oGtF (by omega) ?_ | refine oGt ?_) | (refine is_geq ?_; first | refine oGeT (by omega) ?_ | refine oGeF (by omega) ?_ | refine oGe ?_) | (refine is_eql ?_; first | refine oEqT (by omega) ?_ | refine oEqF (by omega) ?_ | refine oEq ?_ | refine oEqS ?_) | (refine is_neq ?_; first | refine oNeT (by omega) ?_ | refine oNeF (by omega) ?_ | refine oNe ?_ | refine oNeS ?_) | (refine is_add ?_; first | refine oAdd (by omega) (by omega) ?_ | refine oCatS (by omega) ?_ | refine oAddW ?_) | (refine is_sub ?_; first | refine oSub (by omega) (by omega) ?_ | refine oSubW ?_) | (refine is_mul ?_; first | refine oMul (by omega) (by omega) ?_ | refine oMulW ?_) | refine oBin rfl ?_) | refine oLenD ?_) | (refine isLd ?_; first | refine oLW rfl ?_ | refine oL rfl ?_) | (refine isSt ?_; first | refine oSW rfl rfl rfl ?_ | refine oS rfl rfl rfl (by (try simp only [nth, List.getD_cons_zero, List.getD_cons_succ, bldV, placeIn, wrCells, rep, Value.cells, aggV, List.set_cons_zero, List.set_cons_succ, List.length_cons, List.length_nil, List.nil_append, List.cons_append, List.append_nil, List.size_toArray, Option.bind_some, Nat.reduceAdd, Nat.reduceMul, Nat.reduceLeDiff, Nat.reduceEqDiff, Nat.zero_le, Nat.le_refl, true_and, and_self, and_true, if_true]); first | done | rfl) ?_) | (refine isVB ?_; first | refine ent_true ?_ | refine ent_false ?_) | (refine oN fun nb => ?_) | (refine isRdK ?_; first | refine rdkW rfl ?_ | refine rdk rfl ?_) | (refine isAnd ?_; refine oA (by first | exact ent_undef | (refine oL rfl ?_; exact ent_Is)) ?_))
      exact ent_ret (()) (by rfl) (by trivial) (Shift.of_picks (by repeat (first | exact .nil | apply Picks.cons (by first | exact Pick.ro (by repeat (first | exact has_here | apply has_there)) | exact .per | ((repeat (first | exact Pick.here | apply Pick.there)); done) | (apply Pick.avO; (repeat (first | exact Pick.here | apply Pick.there)); done) | exact Pick.avL (by repeat (first | exact has_here | apply has_there))) | exact Picks.all _)))
end Go.Proofs.Ytndanmhgbfjinaa
namespace Go.Proofs.Ytndanmhgbfjinaa
open Go Go.Sl Go.Cd
attribute [local irreducible] Try.prog cl ro mp mpI clT RowP FrP Big LV OV AV O Ld St Nw VB BS Cl Rd Runs OpR VJ VL RdK MSl Cv And2 binV cvV minV maxV aggO
theorem dF.close {F : AF} {v1 v2 : Value} {h : PH} (a : LV dBool v1 (hasL F.parts) h) (b : LV dStr v2 (strL F.parts) h) : dF.rep F [.int .i64 F.time, .int .i64 F.first, v1, v2] h := ⟨(v1, v2), rfl, a, b⟩
def aggV (cs : List Value) : Value := .agg cs.toArray
theorem new_ref (t count now : Int) : Ctr Try.prog 53 [.int .i64 t, .int .i64 count, .int .i64 now] [] aggV (fun _ => True) (fun cs => [dF.rep (AF.new t count now) cs]) := by
  refine ctr_of e53 ?_
  unfold S53
  (try dsimp only [List.cons_append, List.nil_append, List.append]); repeat (first | (refine isO ?_; first | refine oExt rfl ?_ | refine ent_O rfl ?_ | refine oAgg (by (try simp only [nth, List.getD_cons_zero, List.getD_cons_succ, bldV, placeIn, wrCells, rep, Value.cells, aggV, List.set_cons_zero, List.set_cons_succ, List.length_cons, List.length_nil, List.nil_append, List.cons_append, List.append_nil, List.size_toArray, Option.bind_some, Nat.reduceAdd, Nat.reduceMul, Nat.reduceLeDiff, Nat.reduceEqDiff, Nat.zero_le, Nat.le_refl, true_and, and_self, and_true, if_true]); first | done | rfl) ?_ | refine oMin ?_ | refine oMax ?_ | (refine isCv ?_; first | refine oCv (by omega) (by omega) ?_ | refine oCvW ?_) | (refine isBin ?_; first | (refine is_lss ?_; first | refine oLsT (by omega) ?_ | refine oLsF (by omega) ?_ | refine oLs ?_) | (refine is_leq ?_; first | refine oLeT (by omega) ?_ | refine oLeF (by omega) ?_ | refine oLe ?_) | (refine is_gtr ?_; first | refine oGtT (by omega) ?_ | refine oGtF (by omega) ?_ | refine oGt ?_) | (refine is_geq ?_; first | refine oGeT (by omega) ?_ | refine oGeF (by omega) ?_ | refine oGe ?_) | (refine is_eql ?_; first | refine oEqT (by omega) ?_ | refine oEqF (by omega) ?_ | refine oEq ?_ | refine oEqS ?_) | (refine is_neq ?_; first | refine oNeT (by omega) ?_ | refine oNeF (by omega) ?_ | refine oNe ?_ | refine oNeS ?_) | (refine is_add ?_; first | refine oAdd (by omega) (by omega) ?_ | refine oCatS (by omega) ?_ | refine oAddW ?_) | (refine is_sub ?_; first | refine oSub (by omega) (by omega) ?_ | refine oSubW ?_) | (refine is_mul ?_; first | refine oMul (by omega) (by omega) ?_ | refine oMulW ?_) | refine oBin rfl ?_) | refine oLenD ?_) | (refine isLd ?_; first | refine oLW rfl ?_ | refine oL rfl ?_) | (refine isSt ?_; first | refine oSW rfl rfl rfl ?_ | refine oS rfl rfl rfl (by (try simp only [nth, List.getD_cons_zero, List.getD_cons_succ, bldV, placeIn, wrCells, rep, Value.cells, aggV, List.set_cons_zero, List.set_cons_succ, List.length_cons, List.length_nil, List.nil_append, List.cons_append, List.append_nil, List.size_toArray, Option.bind_some, Nat.reduceAdd, Nat.reduceMul, Nat.reduceLeDiff, Nat.reduceEqDiff, Nat.zero_le, Nat.le_refl, true_and, and_self, and_true, if_true]); first | done | rfl) ?_) | (refine isVB ?_; first | refine ent_true ?_ | refine ent_false ?_) | (refine oN fun nb => ?_) | (refine isRdK ?_; first | refine rdkW rfl ?_ | refine rdk rfl ?_) | (refine isAnd ?_; refine oA (by first | exact ent_undef | (refine oL rfl ?_; exact ent_Is)) ?_))
  obtain ⟨n, hn⟩ : ∃ n : Nat, (n : Int) = max 1 (min count 255) := ⟨(max 1 (min count 255)).toNat, by omega⟩
  have hp : (AF.new t count now).parts = List.replicate n none := by unfold AF.new; dsimp only; congr 1; omega
  have hle : n ≤ 255 := by omega
  refine oMk n (by omega) (by omega) (by omega) (by omega) fun b1 => ?_
  refine oMk n (by omega) (by omega) (by omega) (by omega) fun b2 => ?_
  (try dsimp only [List.cons_append, List.nil_append, List.append]); repeat (first | (refine isO ?_; first | refine oExt rfl ?_ | refine ent_O rfl ?_ | refine oAgg (by (try simp only [nth, List.getD_cons_zero, List.getD_cons_succ, bldV, placeIn, wrCells, rep, Value.cells, aggV, List.set_cons_zero, List.set_cons_succ, List.length_cons, List.length_nil, List.nil_append, List.cons_append, List.append_nil, List.size_toArray, Option.bind_some, Nat.reduceAdd, Nat.reduceMul, Nat.reduceLeDiff, Nat.reduceEqDiff, Nat.zero_le, Nat.le_refl, true_and, and_self, and_true, if_true]); first | done | rfl) ?_ | refine oMin ?_ | refine oMax ?_ | (refine isCv ?_; first | refine oCv (by omega) (by omega) ?_ | refine oCvW ?_) | (refine isBin ?_; first | (refine is_lss ?_; first | refine oLsT (by omega) ?_ | refine oLsF (by omega) ?_ | refine oLs ?_) | (refine is_leq ?_; first | refine oLeT (by omega) ?_ | refine oLeF (by omega) ?_ | refine oLe ?_) | (refine is_gtr ?_; first | refine oGtT (by omega) ?_ | refine oGtF (by omega) ?_ | refine oGt ?_) | (refine is_geq ?_; first | refine oGeT (by omega) ?_ | refine oGeF (by omega) ?_ | refine oGe ?_) | (refine is_eql ?_; first | refine oEqT (by omega) ?_ | refine oEqF (by omega) ?_ | refine oEq ?_ | refine oEqS ?_) | (refine is_neq ?_; first | refine oNeT (by omega) ?_ | refine oNeF (by omega) ?_ | refine oNe ?_ | refine oNeS ?_) | (refine is_add ?_; first | refine oAdd (by omega) (by omega) ?_ | refine oCatS (by omega) ?_ | refine oAddW ?_) | (refine is_sub ?_; first | refine oSub (by omega) (by omega) ?_ | refine oSubW ?_) | (refine is_mul ?_; first | refine oMul (by omega) (by omega) ?_ | refine oMulW ?_) | refine oBin rfl ?_) | refine oLenD ?_) | (refine isLd ?_; first | refine oLW rfl ?_ | refine oL rfl ?_) | (refine isSt ?_; first | refine oSW rfl rfl rfl ?_ | refine oS rfl rfl rfl (by (try simp only [nth, List.getD_cons_zero, List.getD_cons_succ, bldV, placeIn, wrCells, rep, Value.cells, aggV, List.set_cons_zero, List.set_cons_succ, List.length_cons, List.length_nil, List.nil_append, List.cons_append, List.append_nil, List.size_toArray, Option.bind_some, Nat.reduceAdd, Nat.reduceMul, Nat.reduceLeDiff, Nat.reduceEqDiff, Nat.zero_le, Nat.le_refl, true_and, and_self, and_true, if_true]); first | done | rfl) ?_) | (refine isVB ?_; first | refine ent_true ?_ | refine ent_false ?_) | (refine oN fun nb => ?_) | (refine isRdK ?_; first | refine rdkW rfl ?_ | refine rdk rfl ?_) | (refine isAnd ?_; refine oA (by first | exact ent_undef | (refine oL rfl ?_; exact ent_Is)) ?_))
  refine Ent.mkN dBool false (b := b1) (by first | exact P0 | exact P1 | exact P2) (fun h => rfl) ?_
  refine Ent.mkN dStr ⟨#[]⟩ (b := b2) (by first | exact P0 | exact P1 | exact P2) (fun h => rfl) ?_
  refine Ent.froze (D := dBool) (by first | exact P0 | exact P1 | exact P2) ?_
  refine Ent.froze (D := dStr) (by first | exact P0 | exact P1 | exact P2) ?_
  refine Ent.add (A := dF.rep (AF.new t count now) [.int .i64 (AF.new t count now).time, .int .i64 (AF.new t count now).first, .slice (some ⟨b1, 0, none⟩) n n, .slice (some ⟨b2, 0, none⟩) n n]) (fun h s => dF.close ?_ ?_) ?_
  · rw [hp]; unfold hasL; rw [List.map_replicate]; revert h s; exact (by repeat (first | exact has_here | apply has_there))
  · rw [hp]; unfold strL; rw [List.map_replicate]; revert h s; exact (by repeat (first | exact has_here | apply has_there))
  exact ent_ret (_) (by rfl) (by trivial) (Shift.of_picks (by repeat (first | exact .nil | apply Picks.cons (by first | exact Pick.ro (by repeat (first | exact has_here | apply has_there)) | exact .per | ((repeat (first | exact Pick.here | apply Pick.there)); done) | (apply Pick.avO; (repeat (first | exact Pick.here | apply Pick.there)); done) | exact Pick.avL (by repeat (first | exact has_here | apply has_there))) | exact Picks.all _)))
theorem put_ref (F : AF) (cs : List Value) (hl : F.parts.length ≤ 255) (i c : Int) (s : ByteArray) :
    Ctr Try.prog 52 [aggV cs, .int .i64 i, .int .i64 c, .string s] [dF.rep F cs] (fun r : List Value => .tuple #[aggV r, .int .i64 (F.put i c s).2]) (fun _ => True) (fun r => [dF.rep (F.put i c s).1 r]) := by
  refine ctr_of e52 ?_
  refine Ent.add (A := dF.rep F cs) (by repeat (first | exact has_here | apply has_there)) ?_
  refine Ent.openX P0 dF.open fun v e => ?_
  subst e
  obtain ⟨v1, v2⟩ := v
  have hl' : (hasL F.parts).length = F.parts.length := by unfold hasL; rw [List.length_map]
  have hl2 : (strL F.parts).length = F.parts.length := by unfold strL; rw [List.length_map]
  unfold S52
  dsimp only [List.cons_append, List.nil_append]
  refine oSlD v1 fun a1 c1 e1 => oSlD v2 fun a2 c2 e2 => ?_
  subst e1 e2
  refine oN fun b => ?_
  refine oN fun b' => ?_
  refine oJ (X := Bool) (fun b => [.bool b]) (fun b => b = true ↔ (c ≠ F.parts.length ∨ i < 0 ∨ i ≥ F.parts.length)) ?_ ?_
  · refine ent_O rfl ?_
    refine oL rfl ?_
    (try refine oLenD ?_)
    rw [hl']
    (try dsimp only [List.cons_append, List.nil_append, List.append]); repeat (first | (refine isO ?_; first | refine oExt rfl ?_ | refine ent_O rfl ?_ | refine oAgg (by (try simp only [nth, List.getD_cons_zero, List.getD_cons_succ, bldV, placeIn, wrCells, rep, Value.cells, aggV, List.set_cons_zero, List.set_cons_succ, List.length_cons, List.length_nil, List.nil_append, List.cons_append, List.append_nil, List.size_toArray, Option.bind_some, Nat.reduceAdd, Nat.reduceMul, Nat.reduceLeDiff, Nat.reduceEqDiff, Nat.zero_le, Nat.le_refl, true_and, and_self, and_true, if_true]); first | done | rfl) ?_ | refine oMin ?_ | refine oMax ?_ | (refine isCv ?_; first | refine oCv (by omega) (by omega) ?_ | refine oCvW ?_) | (refine isBin ?_; first | (refine is_lss ?_; first | refine oLsT (by omega) ?_ | refine oLsF (by omega) ?_ | refine oLs ?_) | (refine is_leq ?_; first | refine oLeT (by omega) ?_ | refine oLeF (by omega) ?_ | refine oLe ?_) | (refine is_gtr ?_; first | refine oGtT (by omega) ?_ | refine oGtF (by omega) ?_ | refine oGt ?_) | (refine is_geq ?_; first | refine oGeT (by omega) ?_ | refine oGeF (by omega) ?_ | refine oGe ?_) | (refine is_eql ?_; first | refine oEqT (by omega) ?_ | refine oEqF (by omega) ?_ | refine oEq ?_ | refine oEqS ?_) | (refine is_neq ?_; first | refine oNeT (by omega) ?_ | refine oNeF (by omega) ?_ | refine oNe ?_ | refine oNeS ?_) | (refine is_add ?_; first | refine oAdd (by omega) (by omega) ?_ | refine oCatS (by omega) ?_ | refine oAddW ?_) | (refine is_sub ?_; first | refine oSub (by omega) (by omega) ?_ | refine oSubW ?_) | (refine is_mul ?_; first | refine oMul (by omega) (by omega) ?_ | refine oMulW ?_) | refine oBin rfl ?_) | refine oLenD ?_) | (refine isLd ?_; first | refine oLW rfl ?_ | refine oL rfl ?_) | (refine isSt ?_; first | refine oSW rfl rfl rfl ?_ | refine oS rfl rfl rfl (by (try simp only [nth, List.getD_cons_zero, List.getD_cons_succ, bldV, placeIn, wrCells, rep, Value.cells, aggV, List.set_cons_zero, List.set_cons_succ, List.length_cons, List.length_nil, List.nil_append, List.cons_append, List.append_nil, List.size_toArray, Option.bind_some, Nat.reduceAdd, Nat.reduceMul, Nat.reduceLeDiff, Nat.reduceEqDiff, Nat.zero_le, Nat.le_refl, true_and, and_self, and_true, if_true]); first | done | rfl) ?_) | (refine isVB ?_; first | refine ent_true ?_ | refine ent_false ?_) | (refine oN fun nb => ?_) | (refine isRdK ?_; first | refine rdkW rfl ?_ | refine rdk rfl ?_) | (refine isAnd ?_; refine oA (by first | exact ent_undef | (refine oL rfl ?_; exact ent_Is)) ?_))
    refine oI (fun h1 => oJ0 true rfl (by simp [h1])) fun h1 => ?_
    (try dsimp only [List.cons_append, List.nil_append, List.append]); repeat (first | (refine isO ?_; first | refine oExt rfl ?_ | refine ent_O rfl ?_ | refine oAgg (by (try simp only [nth, List.getD_cons_zero, List.getD_cons_succ, bldV, placeIn, wrCells, rep, Value.cells, aggV, List.set_cons_zero, List.set_cons_succ, List.length_cons, List.length_nil, List.nil_append, List.cons_append, List.append_nil, List.size_toArray, Option.bind_some, Nat.reduceAdd, Nat.reduceMul, Nat.reduceLeDiff, Nat.reduceEqDiff, Nat.zero_le, Nat.le_refl, true_and, and_self, and_true, if_true]); first | done | rfl) ?_ | refine oMin ?_ | refine oMax ?_ | (refine isCv ?_; first | refine oCv (by omega) (by omega) ?_ | refine oCvW ?_) | (refine isBin ?_; first | (refine is_lss ?_; first | refine oLsT (by omega) ?_ | refine oLsF (by omega) ?_ | refine oLs ?_) | (refine is_leq ?_; first | refine oLeT (by omega) ?_ | refine oLeF (by omega) ?_ | refine oLe ?_) | (refine is_gtr ?_; first | refine oGtT (by omega) ?_ | refine oGtF (by omega) ?_ | refine oGt ?_) | (refine is_geq ?_; first | refine oGeT (by omega) ?_ | refine oGeF (by omega) ?_ | refine oGe ?_) | (refine is_eql ?_; first | refine oEqT (by omega) ?_ | refine oEqF (by omega) ?_ | refine oEq ?_ | refine oEqS ?_) | (refine is_neq ?_; first | refine oNeT (by omega) ?_ | refine oNeF (by omega) ?_ | refine oNe ?_ | refine oNeS ?_) | (refine is_add ?_; first | refine oAdd (by omega) (by omega) ?_ | refine oCatS (by omega) ?_ | refine oAddW ?_) | (refine is_sub ?_; first | refine oSub (by omega) (by omega) ?_ | refine oSubW ?_) | (refine is_mul ?_; first | refine oMul (by omega) (by omega) ?_ | refine oMulW ?_) | refine oBin rfl ?_) | refine oLenD ?_) | (refine isLd ?_; first | refine oLW rfl ?_ | refine oL rfl ?_) | (refine isSt ?_; first | refine oSW rfl rfl rfl ?_ | refine oS rfl rfl rfl (by (try simp only [nth, List.getD_cons_zero, List.getD_cons_succ, bldV, placeIn, wrCells, rep, Value.cells, aggV, List.set_cons_zero, List.set_cons_succ, List.length_cons, List.length_nil, List.nil_append, List.cons_append, List.append_nil, List.size_toArray, Option.bind_some, Nat.reduceAdd, Nat.reduceMul, Nat.reduceLeDiff, Nat.reduceEqDiff, Nat.zero_le, Nat.le_refl, true_and, and_self, and_true, if_true]); first | done | rfl) ?_) | (refine isVB ?_; first | refine ent_true ?_ | refine ent_false ?_) | (refine oN fun nb => ?_) | (refine isRdK ?_; first | refine rdkW rfl ?_ | refine rdk rfl ?_) | (refine isAnd ?_; refine oA (by first | exact ent_undef | (refine oL rfl ?_; exact ent_Is)) ?_))
    refine oI (fun h2 => oJ0 true rfl (by simp [h2])) fun h2 => ?_
    (try dsimp only [List.cons_append, List.nil_append, List.append]); repeat (first | (refine isO ?_; first | refine oExt rfl ?_ | refine ent_O rfl ?_ | refine oAgg (by (try simp only [nth, List.getD_cons_zero, List.getD_cons_succ, bldV, placeIn, wrCells, rep, Value.cells, aggV, List.set_cons_zero, List.set_cons_succ, List.length_cons, List.length_nil, List.nil_append, List.cons_append, List.append_nil, List.size_toArray, Option.bind_some, Nat.reduceAdd, Nat.reduceMul, Nat.reduceLeDiff, Nat.reduceEqDiff, Nat.zero_le, Nat.le_refl, true_and, and_self, and_true, if_true]); first | done | rfl) ?_ | refine oMin ?_ | refine oMax ?_ | (refine isCv ?_; first | refine oCv (by omega) (by omega) ?_ | refine oCvW ?_) | (refine isBin ?_; first | (refine is_lss ?_; first | refine oLsT (by omega) ?_ | refine oLsF (by omega) ?_ | refine oLs ?_) | (refine is_leq ?_; first | refine oLeT (by omega) ?_ | refine oLeF (by omega) ?_ | refine oLe ?_) | (refine is_gtr ?_; first | refine oGtT (by omega) ?_ | refine oGtF (by omega) ?_ | refine oGt ?_) | (refine is_geq ?_; first | refine oGeT (by omega) ?_ | refine oGeF (by omega) ?_ | refine oGe ?_) | (refine is_eql ?_; first | refine oEqT (by omega) ?_ | refine oEqF (by omega) ?_ | refine oEq ?_ | refine oEqS ?_) | (refine is_neq ?_; first | refine oNeT (by omega) ?_ | refine oNeF (by omega) ?_ | refine oNe ?_ | refine oNeS ?_) | (refine is_add ?_; first | refine oAdd (by omega) (by omega) ?_ | refine oCatS (by omega) ?_ | refine oAddW ?_) | (refine is_sub ?_; first | refine oSub (by omega) (by omega) ?_ | refine oSubW ?_) | (refine is_mul ?_; first | refine oMul (by omega) (by omega) ?_ | refine oMulW ?_) | refine oBin rfl ?_) | refine oLenD ?_) | (refine isLd ?_; first | refine oLW rfl ?_ | refine oL rfl ?_) | (refine isSt ?_; first | refine oSW rfl rfl rfl ?_ | refine oS rfl rfl rfl (by (try simp only [nth, List.getD_cons_zero, List.getD_cons_succ, bldV, placeIn, wrCells, rep, Value.cells, aggV, List.set_cons_zero, List.set_cons_succ, List.length_cons, List.length_nil, List.nil_append, List.cons_append, List.append_nil, List.size_toArray, Option.bind_some, Nat.reduceAdd, Nat.reduceMul, Nat.reduceLeDiff, Nat.reduceEqDiff, Nat.zero_le, Nat.le_refl, true_and, and_self, and_true, if_true]); first | done | rfl) ?_) | (refine isVB ?_; first | refine ent_true ?_ | refine ent_false ?_) | (refine oN fun nb => ?_) | (refine isRdK ?_; first | refine rdkW rfl ?_ | refine rdk rfl ?_) | (refine isAnd ?_; refine oA (by first | exact ent_undef | (refine oL rfl ?_; exact ent_Is)) ?_))
    exact oJ0 (decide (i ≥ c)) rfl (by simp [h2] at *; simp [h1])
  intro bad hbad j
  refine ent_VB (b := bad) (fun hb => ?_) fun hb => ?_
  · have e : F.put i c s = (F, 4) := by unfold AF.put; rw [if_pos (hbad.1 hb)]
    rw [e]
    (try dsimp only [List.cons_append, List.nil_append, List.append]); repeat (first | (refine isO ?_; first | refine oExt rfl ?_ | refine ent_O rfl ?_ | refine oAgg (by (try simp only [nth, List.getD_cons_zero, List.getD_cons_succ, bldV, placeIn, wrCells, rep, Value.cells, aggV, List.set_cons_zero, List.set_cons_succ, List.length_cons, List.length_nil, List.nil_append, List.cons_append, List.append_nil, List.size_toArray, Option.bind_some, Nat.reduceAdd, Nat.reduceMul, Nat.reduceLeDiff, Nat.reduceEqDiff, Nat.zero_le, Nat.le_refl, true_and, and_self, and_true, if_true]); first | done | rfl) ?_ | refine oMin ?_ | refine oMax ?_ | (refine isCv ?_; first | refine oCv (by omega) (by omega) ?_ | refine oCvW ?_) | (refine isBin ?_; first | (refine is_lss ?_; first | refine oLsT (by omega) ?_ | refine oLsF (by omega) ?_ | refine oLs ?_) | (refine is_leq ?_; first | refine oLeT (by omega) ?_ | refine oLeF (by omega) ?_ | refine oLe ?_) | (refine is_gtr ?_; first | refine oGtT (by omega) ?_ | refine oGtF (by omega) ?_ | refine oGt ?_) | (refine is_geq ?_; first | refine oGeT (by omega) ?_ | refine oGeF (by omega) ?_ | refine oGe ?_) | (refine is_eql ?_; first | refine oEqT (by omega) ?_ | refine oEqF (by omega) ?_ | refine oEq ?_ | refine oEqS ?_) | (refine is_neq ?_; first | refine oNeT (by omega) ?_ | refine oNeF (by omega) ?_ | refine oNe ?_ | refine oNeS ?_) | (refine is_add ?_; first | refine oAdd (by omega) (by omega) ?_ | refine oCatS (by omega) ?_ | refine oAddW ?_) | (refine is_sub ?_; first | refine oSub (by omega) (by omega) ?_ | refine oSubW ?_) | (refine is_mul ?_; first | refine oMul (by omega) (by omega) ?_ | refine oMulW ?_) | refine oBin rfl ?_) | refine oLenD ?_) | (refine isLd ?_; first | refine oLW rfl ?_ | refine oL rfl ?_) | (refine isSt ?_; first | refine oSW rfl rfl rfl ?_ | refine oS rfl rfl rfl (by (try simp only [nth, List.getD_cons_zero, List.getD_cons_succ, bldV, placeIn, wrCells, rep, Value.cells, aggV, List.set_cons_zero, List.set_cons_succ, List.length_cons, List.length_nil, List.nil_append, List.cons_append, List.append_nil, List.size_toArray, Option.bind_some, Nat.reduceAdd, Nat.reduceMul, Nat.reduceLeDiff, Nat.reduceEqDiff, Nat.zero_le, Nat.le_refl, true_and, and_self, and_true, if_true]); first | done | rfl) ?_) | (refine isVB ?_; first | refine ent_true ?_ | refine ent_false ?_) | (refine oN fun nb => ?_) | (refine isRdK ?_; first | refine rdkW rfl ?_ | refine rdk rfl ?_) | (refine isAnd ?_; refine oA (by first | exact ent_undef | (refine oL rfl ?_; exact ent_Is)) ?_))
    exact ent_ret (_) (by rfl) (by trivial) (Shift.of_picks (by repeat (first | exact .nil | apply Picks.cons (by first | exact Pick.ro (by repeat (first | exact has_here | apply has_there)) | exact .per | ((repeat (first | exact Pick.here | apply Pick.there)); done) | (apply Pick.avO; (repeat (first | exact Pick.here | apply Pick.there)); done) | exact Pick.avL (by repeat (first | exact has_here | apply has_there))) | exact Picks.all _)))
  have hok : ¬ (c ≠ F.parts.length ∨ i < 0 ∨ i ≥ F.parts.length) := fun h => by simp [hbad.2 h] at hb
  obtain ⟨n, rfl⟩ : ∃ n : Nat, (n : Int) = i := ⟨i.toNat, by omega⟩
  have hn : n < F.parts.length := by omega
  have hpat : pat F.parts n = F.parts[n] := by unfold pat; rw [if_pos (by omega), Int.toNat_natCast, List.getElem?_eq_getElem hn]; rfl
  refine ent_O rfl ?_
  refine oL rfl ?_
  refine oAtP (f := fun b => [.bool b]) n rfl (by omega) fun y hy => ?_
  refine rdk rfl ?_
  have hy' : y = (F.parts[n]).isSome := by
    unfold hasL at hy; rw [List.getElem?_map, List.getElem?_eq_getElem hn] at hy; simpa using hy.symm
  refine ent_VB (b := y) (fun hb2 => ?_) fun hb2 => ?_
  · have e : F.put n c s = (F, 3) := by
      unfold AF.put; rw [if_neg hok, if_pos]
      rw [hpat, ← hy', hb2]
    rw [e]
    (try dsimp only [List.cons_append, List.nil_append, List.append]); repeat (first | (refine isO ?_; first | refine oExt rfl ?_ | refine ent_O rfl ?_ | refine oAgg (by (try simp only [nth, List.getD_cons_zero, List.getD_cons_succ, bldV, placeIn, wrCells, rep, Value.cells, aggV, List.set_cons_zero, List.set_cons_succ, List.length_cons, List.length_nil, List.nil_append, List.cons_append, List.append_nil, List.size_toArray, Option.bind_some, Nat.reduceAdd, Nat.reduceMul, Nat.reduceLeDiff, Nat.reduceEqDiff, Nat.zero_le, Nat.le_refl, true_and, and_self, and_true, if_true]); first | done | rfl) ?_ | refine oMin ?_ | refine oMax ?_ | (refine isCv ?_; first | refine oCv (by omega) (by omega) ?_ | refine oCvW ?_) | (refine isBin ?_; first | (refine is_lss ?_; first | refine oLsT (by omega) ?_ | refine oLsF (by omega) ?_ | refine oLs ?_) | (refine is_leq ?_; first | refine oLeT (by omega) ?_ | refine oLeF (by omega) ?_ | refine oLe ?_) | (refine is_gtr ?_; first | refine oGtT (by omega) ?_ | refine oGtF (by omega) ?_ | refine oGt ?_) | (refine is_geq ?_; first | refine oGeT (by omega) ?_ | refine oGeF (by omega) ?_ | refine oGe ?_) | (refine is_eql ?_; first | refine oEqT (by omega) ?_ | refine oEqF (by omega) ?_ | refine oEq ?_ | refine oEqS ?_) | (refine is_neq ?_; first | refine oNeT (by omega) ?_ | refine oNeF (by omega) ?_ | refine oNe ?_ | refine oNeS ?_) | (refine is_add ?_; first | refine oAdd (by omega) (by omega) ?_ | refine oCatS (by omega) ?_ | refine oAddW ?_) | (refine is_sub ?_; first | refine oSub (by omega) (by omega) ?_ | refine oSubW ?_) | (refine is_mul ?_; first | refine oMul (by omega) (by omega) ?_ | refine oMulW ?_) | refine oBin rfl ?_) | refine oLenD ?_) | (refine isLd ?_; first | refine oLW rfl ?_ | refine oL rfl ?_) | (refine isSt ?_; first | refine oSW rfl rfl rfl ?_ | refine oS rfl rfl rfl (by (try simp only [nth, List.getD_cons_zero, List.getD_cons_succ, bldV, placeIn, wrCells, rep, Value.cells, aggV, List.set_cons_zero, List.set_cons_succ, List.length_cons, List.length_nil, List.nil_append, List.cons_append, List.append_nil, List.size_toArray, Option.bind_some, Nat.reduceAdd, Nat.reduceMul, Nat.reduceLeDiff, Nat.reduceEqDiff, Nat.zero_le, Nat.le_refl, true_and, and_self, and_true, if_true]); first | done | rfl) ?_) | (refine isVB ?_; first | refine ent_true ?_ | refine ent_false ?_) | (refine oN fun nb => ?_) | (refine isRdK ?_; first | refine rdkW rfl ?_ | refine rdk rfl ?_) | (refine isAnd ?_; refine oA (by first | exact ent_undef | (refine oL rfl ?_; exact ent_Is)) ?_))
    exact ent_ret (_) (by rfl) (by trivial) (Shift.of_picks (by repeat (first | exact .nil | apply Picks.cons (by first | exact Pick.ro (by repeat (first | exact has_here | apply has_there)) | exact .per | ((repeat (first | exact Pick.here | apply Pick.there)); done) | (apply Pick.avO; (repeat (first | exact Pick.here | apply Pick.there)); done) | exact Pick.avL (by repeat (first | exact has_here | apply has_there))) | exact Picks.all _)))
  have hps : (pat F.parts n).isSome = false := by rw [hpat, ← hy', hb2]
  refine oBS (by (try simp only [nth, List.getD_cons_zero, List.getD_cons_succ, bldV, placeIn, wrCells, rep, Value.cells, aggV, List.set_cons_zero, List.set_cons_succ, List.length_cons, List.length_nil, List.nil_append, List.cons_append, List.append_nil, List.size_toArray, Option.bind_some, Nat.reduceAdd, Nat.reduceMul, Nat.reduceLeDiff, Nat.reduceEqDiff, Nat.zero_le, Nat.le_refl, true_and, and_self, and_true, if_true]); first | done | rfl) fun nb1 => ?_
  refine Ent.mk0 dBool (b := nb1) P0 ?_
  refine ent_O rfl ?_
  refine oL rfl ?_
  refine oCatD (D := dBool) (ys := hasL F.parts) (by repeat (first | exact has_here | apply has_there)) rfl rfl rfl (by decide) (by rw [hl', List.length_nil]; omega) fun w1 => ?_
  refine oBS (by (try simp only [nth, List.getD_cons_zero, List.getD_cons_succ, bldV, placeIn, wrCells, rep, Value.cells, aggV, List.set_cons_zero, List.set_cons_succ, List.length_cons, List.length_nil, List.nil_append, List.cons_append, List.append_nil, List.size_toArray, Option.bind_some, Nat.reduceAdd, Nat.reduceMul, Nat.reduceLeDiff, Nat.reduceEqDiff, Nat.zero_le, Nat.le_refl, true_and, and_self, and_true, if_true]); first | done | rfl) fun nb2 => ?_
  refine Ent.mk0 dStr (b := nb2) P0 ?_
  refine ent_O rfl ?_
  refine oL rfl ?_
  refine oCatD (D := dStr) (ys := strL F.parts) (by repeat (first | exact has_here | apply has_there)) rfl rfl rfl (by decide) (by rw [hl2, List.length_nil]; omega) fun w2 => ?_
  refine oSetD (v := w1) (D := dBool) rfl n rfl (by simp only [List.nil_append]; omega) true (fun h s => rfl) ?_
  refine oSetD (v := w2) (D := dStr) rfl n rfl (by simp only [List.nil_append]; omega) s (fun h s => rfl) ?_
  simp only [List.nil_append]
  refine oSlD w1 fun a3 c3 e3 => oSlD w2 fun a4 c4 e4 => ?_
  subst e3 e4
  (try dsimp only [List.cons_append, List.nil_append, List.append]); repeat (first | (refine isO ?_; first | refine oExt rfl ?_ | refine ent_O rfl ?_ | refine oAgg (by (try simp only [nth, List.getD_cons_zero, List.getD_cons_succ, bldV, placeIn, wrCells, rep, Value.cells, aggV, List.set_cons_zero, List.set_cons_succ, List.length_cons, List.length_nil, List.nil_append, List.cons_append, List.append_nil, List.size_toArray, Option.bind_some, Nat.reduceAdd, Nat.reduceMul, Nat.reduceLeDiff, Nat.reduceEqDiff, Nat.zero_le, Nat.le_refl, true_and, and_self, and_true, if_true]); first | done | rfl) ?_ | refine oMin ?_ | refine oMax ?_ | (refine isCv ?_; first | refine oCv (by omega) (by omega) ?_ | refine oCvW ?_) | (refine isBin ?_; first | (refine is_lss ?_; first | refine oLsT (by omega) ?_ | refine oLsF (by omega) ?_ | refine oLs ?_) | (refine is_leq ?_; first | refine oLeT (by omega) ?_ | refine oLeF (by omega) ?_ | refine oLe ?_) | (refine is_gtr ?_; first | refine oGtT (by omega) ?_ | refine oGtF (by omega) ?_ | refine oGt ?_) | (refine is_geq ?_; first | refine oGeT (by omega) ?_ | refine oGeF (by omega) ?_ | refine oGe ?_) | (refine is_eql ?_; first | refine oEqT (by omega) ?_ | refine oEqF (by omega) ?_ | refine oEq ?_ | refine oEqS ?_) | (refine is_neq ?_; first | refine oNeT (by omega) ?_ | refine oNeF (by omega) ?_ | refine oNe ?_ | refine oNeS ?_) | (refine is_add ?_; first | refine oAdd (by omega) (by omega) ?_ | refine oCatS (by omega) ?_ | refine oAddW ?_) | (refine is_sub ?_; first | refine oSub (by omega) (by omega) ?_ | refine oSubW ?_) | (refine is_mul ?_; first | refine oMul (by omega) (by omega) ?_ | refine oMulW ?_) | refine oBin rfl ?_) | refine oLenD ?_) | (refine isLd ?_; first | refine oLW rfl ?_ | refine oL rfl ?_) | (refine isSt ?_; first | refine oSW rfl rfl rfl ?_ | refine oS rfl rfl rfl (by (try simp only [nth, List.getD_cons_zero, List.getD_cons_succ, bldV, placeIn, wrCells, rep, Value.cells, aggV, List.set_cons_zero, List.set_cons_succ, List.length_cons, List.length_nil, List.nil_append, List.cons_append, List.append_nil, List.size_toArray, Option.bind_some, Nat.reduceAdd, Nat.reduceMul, Nat.reduceLeDiff, Nat.reduceEqDiff, Nat.zero_le, Nat.le_refl, true_and, and_self, and_true, if_true]); first | done | rfl) ?_) | (refine isVB ?_; first | refine ent_true ?_ | refine ent_false ?_) | (refine oN fun nb => ?_) | (refine isRdK ?_; first | refine rdkW rfl ?_ | refine rdk rfl ?_) | (refine isAnd ?_; refine oA (by first | exact ent_undef | (refine oL rfl ?_; exact ent_Is)) ?_))
  refine Ent.froze (D := dBool) (by first | exact P0 | exact P1 | exact P2 | exact P3) ?_
  refine Ent.froze (D := dStr) (by first | exact P0 | exact P1 | exact P2 | exact P3) ?_
  let G : AF := ⟨F.time, F.first, F.parts.set n (some s)⟩
  have e : F.put n c s = (G, if G.whole then 2 else 1) := by
    unfold AF.put; rw [if_neg hok, if_neg (by simp [hps])]; rfl
  have g1 : (hasL F.parts).set n true = hasL G.parts := by unfold hasL; rw [List.map_set]; rfl
  have g2 : (strL F.parts).set n s = strL G.parts := by unfold strL; rw [List.map_set]; rfl
  rw [g1, g2, e]
  refine Ent.add (A := dF.rep G [.int .i64 G.time, .int .i64 G.first, .slice a3 (hasL G.parts).length c3, .slice a4 (strL G.parts).length c4]) (fun h s => dF.close ?_ ?_) ?_
  · revert h s; exact (by repeat (first | exact has_here | apply has_there))
  · revert h s; exact (by repeat (first | exact has_here | apply has_there))
  have hG : G.parts.length ≤ 255 := by show (F.parts.set n (some s)).length ≤ 255; rw [List.length_set]; exact hl
  refine Ctr.use (lacks_fn G _ hG) (by repeat (first | exact .nil | apply Picks.cons (by first | exact Pick.ro (by repeat (first | exact has_here | apply has_there)) | exact .per | ((repeat (first | exact Pick.here | apply Pick.there)); done) | (apply Pick.avO; (repeat (first | exact Pick.here | apply Pick.there)); done) | exact Pick.avL (by repeat (first | exact has_here | apply has_there))) | exact Picks.all _)) fun v _ => ?_
  (try dsimp only [List.cons_append, List.nil_append, List.append])
  (try refine oLenD ?_)
  have hk := lk_length G.parts
  have hh := haveN_le G.parts
  by_cases hw : haveN G.parts = G.parts.length
  · have hg : G.whole = true := by simp [AF.whole, hw]
    have h0 : (lk G.parts).length = 0 := by omega
    rw [h0, hg]
    (try dsimp only [List.cons_append, List.nil_append, List.append]); repeat (first | (refine isO ?_; first | refine oExt rfl ?_ | refine ent_O rfl ?_ | refine oAgg (by (try simp only [nth, List.getD_cons_zero, List.getD_cons_succ, bldV, placeIn, wrCells, rep, Value.cells, aggV, List.set_cons_zero, List.set_cons_succ, List.length_cons, List.length_nil, List.nil_append, List.cons_append, List.append_nil, List.size_toArray, Option.bind_some, Nat.reduceAdd, Nat.reduceMul, Nat.reduceLeDiff, Nat.reduceEqDiff, Nat.zero_le, Nat.le_refl, true_and, and_self, and_true, if_true]); first | done | rfl) ?_ | refine oMin ?_ | refine oMax ?_ | (refine isCv ?_; first | refine oCv (by omega) (by omega) ?_ | refine oCvW ?_) | (refine isBin ?_; first | (refine is_lss ?_; first | refine oLsT (by omega) ?_ | refine oLsF (by omega) ?_ | refine oLs ?_) | (refine is_leq ?_; first | refine oLeT (by omega) ?_ | refine oLeF (by omega) ?_ | refine oLe ?_) | (refine is_gtr ?_; first | refine oGtT (by omega) ?_ | refine oGtF (by omega) ?_ | refine oGt ?_) | (refine is_geq ?_; first | refine oGeT (by omega) ?_ | refine oGeF (by omega) ?_ | refine oGe ?_) | (refine is_eql ?_; first | refine oEqT (by omega) ?_ | refine oEqF (by omega) ?_ | refine oEq ?_ | refine oEqS ?_) | (refine is_neq ?_; first | refine oNeT (by omega) ?_ | refine oNeF (by omega) ?_ | refine oNe ?_ | refine oNeS ?_) | (refine is_add ?_; first | refine oAdd (by omega) (by omega) ?_ | refine oCatS (by omega) ?_ | refine oAddW ?_) | (refine is_sub ?_; first | refine oSub (by omega) (by omega) ?_ | refine oSubW ?_) | (refine is_mul ?_; first | refine oMul (by omega) (by omega) ?_ | refine oMulW ?_) | refine oBin rfl ?_) | refine oLenD ?_) | (refine isLd ?_; first | refine oLW rfl ?_ | refine oL rfl ?_) | (refine isSt ?_; first | refine oSW rfl rfl rfl ?_ | refine oS rfl rfl rfl (by (try simp only [nth, List.getD_cons_zero, List.getD_cons_succ, bldV, placeIn, wrCells, rep, Value.cells, aggV, List.set_cons_zero, List.set_cons_succ, List.length_cons, List.length_nil, List.nil_append, List.cons_append, List.append_nil, List.size_toArray, Option.bind_some, Nat.reduceAdd, Nat.reduceMul, Nat.reduceLeDiff, Nat.reduceEqDiff, Nat.zero_le, Nat.le_refl, true_and, and_self, and_true, if_true]); first | done | rfl) ?_) | (refine isVB ?_; first | refine ent_true ?_ | refine ent_false ?_) | (refine oN fun nb => ?_) | (refine isRdK ?_; first | refine rdkW rfl ?_ | refine rdk rfl ?_) | (refine isAnd ?_; refine oA (by first | exact ent_undef | (refine oL rfl ?_; exact ent_Is)) ?_))
    exact ent_ret (_) (by rfl) (by trivial) (Shift.of_picks (by repeat (first | exact .nil | apply Picks.cons (by first | exact Pick.ro (by repeat (first | exact has_here | apply has_there)) | exact .per | ((repeat (first | exact Pick.here | apply Pick.there)); done) | (apply Pick.avO; (repeat (first | exact Pick.here | apply Pick.there)); done) | exact Pick.avL (by repeat (first | exact has_here | apply has_there))) | exact Picks.all _)))
  · have hg : G.whole = false := by simp [AF.whole, hw]
    have h0 : 0 < (lk G.parts).length := by omega
    rw [hg]
    (try dsimp only [List.cons_append, List.nil_append, List.append]); repeat (first | (refine isO ?_; first | refine oExt rfl ?_ | refine ent_O rfl ?_ | refine oAgg (by (try simp only [nth, List.getD_cons_zero, List.getD_cons_succ, bldV, placeIn, wrCells, rep, Value.cells, aggV, List.set_cons_zero, List.set_cons_succ, List.length_cons, List.length_nil, List.nil_append, List.cons_append, List.append_nil, List.size_toArray, Option.bind_some, Nat.reduceAdd, Nat.reduceMul, Nat.reduceLeDiff, Nat.reduceEqDiff, Nat.zero_le, Nat.le_refl, true_and, and_self, and_true, if_true]); first | done | rfl) ?_ | refine oMin ?_ | refine oMax ?_ | (refine isCv ?_; first | refine oCv (by omega) (by omega) ?_ | refine oCvW ?_) | (refine isBin ?_; first | (refine is_lss ?_; first | refine oLsT (by omega) ?_ | refine oLsF (by omega) ?_ | refine oLs ?_) | (refine is_leq ?_; first | refine oLeT (by omega) ?_ | refine oLeF (by omega) ?_ | refine oLe ?_) | (refine is_gtr ?_; first | refine oGtT (by omega) ?_ | refine oGtF (by omega) ?_ | refine oGt ?_) | (refine is_geq ?_; first | refine oGeT (by omega) ?_ | refine oGeF (by omega) ?_ | refine oGe ?_) | (refine is_eql ?_; first | refine oEqT (by omega) ?_ | refine oEqF (by omega) ?_ | refine oEq ?_ | refine oEqS ?_) | (refine is_neq ?_; first | refine oNeT (by omega) ?_ | refine oNeF (by omega) ?_ | refine oNe ?_ | refine oNeS ?_) | (refine is_add ?_; first | refine oAdd (by omega) (by omega) ?_ | refine oCatS (by omega) ?_ | refine oAddW ?_) | (refine is_sub ?_; first | refine oSub (by omega) (by omega) ?_ | refine oSubW ?_) | (refine is_mul ?_; first | refine oMul (by omega) (by omega) ?_ | refine oMulW ?_) | refine oBin rfl ?_) | refine oLenD ?_) | (refine isLd ?_; first | refine oLW rfl ?_ | refine oL rfl ?_) | (refine isSt ?_; first | refine oSW rfl rfl rfl ?_ | refine oS rfl rfl rfl (by (try simp only [nth, List.getD_cons_zero, List.getD_cons_succ, bldV, placeIn, wrCells, rep, Value.cells, aggV, List.set_cons_zero, List.set_cons_succ, List.length_cons, List.length_nil, List.nil_append, List.cons_append, List.append_nil, List.size_toArray, Option.bind_some, Nat.reduceAdd, Nat.reduceMul, Nat.reduceLeDiff, Nat.reduceEqDiff, Nat.zero_le, Nat.le_refl, true_and, and_self, and_true, if_true]); first | done | rfl) ?_) | (refine isVB ?_; first | refine ent_true ?_ | refine ent_false ?_) | (refine oN fun nb => ?_) | (refine isRdK ?_; first | refine rdkW rfl ?_ | refine rdk rfl ?_) | (refine isAnd ?_; refine oA (by first | exact ent_undef | (refine oL rfl ?_; exact ent_Is)) ?_))
    exact ent_ret (_) (by rfl) (by trivial) (Shift.of_picks (by repeat (first | exact .nil | apply Picks.cons (by first | exact Pick.ro (by repeat (first | exact has_here | apply has_there)) | exact .per | ((repeat (first | exact Pick.here | apply Pick.there)); done) | (apply Pick.avO; (repeat (first | exact Pick.here | apply Pick.there)); done) | exact Pick.avL (by repeat (first | exact has_here | apply has_there))) | exact Picks.all _)))
end Go.Proofs.Ytndanmhgbfjinaa
namespace Go.Cd
open Go Go.Sl
def AB.with (X : AB) (L : List AF) : AB := ⟨X.c, L, X.hor, X.pl, X.dr, X.ev⟩
theorem AB.with_self (X : AB) : X.with X.L = X := rfl
theorem evict_over {t : Int} {X : AB} {kind : Int} {out : List Int} {F : AF} {L : List AF} (h : over X.c (F :: L) = true) :
    evict t X kind out (F :: L) = evict t ⟨X.c, L, F.time, X.pl, X.dr, wr64 (X.ev + 1)⟩ (if F.time = t then 6 else kind) (out ++ [F.time]) L := by
  simp [evict, h]
theorem evict_end {t : Int} {X : AB} {kind : Int} {out : List Int} {L : List AF} (h : over X.c L = false) : evict t X kind out L = (X.with L, kind, out) := by
  cases L with
  | nil => rfl
  | cons F L => simp [evict, h, AB.with]
theorem evict_with (t : Int) (X : AB) (L' : List AF) (kind : Int) (out : List Int) (L : List AF) : evict t (X.with L') kind out L = evict t X kind out L := by
  cases L <;> rfl
theorem over_nil {c : Cfg} (h1 : 1 ≤ c.fr) (h2 : 1 ≤ c.pk) (h3 : 1 ≤ c.by_) : over c [] = false := by
  simp [over, sumH, sumB]; omega
theorem sumH_set {L : List AF} {k : Nat} {F : AF} (h : L[k]? = some F) (G : AF) : (sumH (L.set k G) : Int) = sumH L - haveN F.parts + haveN G.parts := by
  induction L generalizing k with
  | nil => simp at h
  | cons H L ih =>
    cases k with
    | zero => simp at h; subst h; simp [sumH]; omega
    | succ k => simp only [List.getElem?_cons_succ] at h; simp [sumH, ih h]; omega
theorem sumB_set {L : List AF} {k : Nat} {F : AF} (h : L[k]? = some F) (G : AF) : (sumB (L.set k G) : Int) = sumB L - bytesN F.parts + bytesN G.parts := by
  induction L generalizing k with
  | nil => simp at h
  | cons H L ih =>
    cases k with
    | zero => simp at h; subst h; simp [sumB]; omega
    | succ k => simp only [List.getElem?_cons_succ] at h; simp [sumB, ih h]; omega
theorem sumH_le {L : List AF} {k : Nat} {F : AF} (h : L[k]? = some F) : haveN F.parts ≤ sumH L := by
  induction L generalizing k with
  | nil => simp at h
  | cons H L ih =>
    cases k with
    | zero => simp at h; subst h; simp [sumH]
    | succ k => simp only [List.getElem?_cons_succ] at h; have := ih h; simp [sumH]; omega
theorem sumB_le {L : List AF} {k : Nat} {F : AF} (h : L[k]? = some F) : bytesN F.parts ≤ sumB L := by
  induction L generalizing k with
  | nil => simp at h
  | cons H L ih =>
    cases k with
    | zero => simp at h; subst h; simp [sumB]
    | succ k => simp only [List.getElem?_cons_succ] at h; have := ih h; simp [sumB]; omega
theorem withT_sums (t count now : Int) (L : List AF) : sumH (withT t count now L).1 = sumH L ∧ sumB (withT t count now L).1 = sumB L ∧ (withT t count now L).1.length ≤ L.length + 1 := by
  have ap : ∀ a b : List AF, sumH (a ++ b) = sumH a + sumH b ∧ sumB (a ++ b) = sumB a + sumB b := by
    intro a b
    induction a with
    | nil => simp [sumH, sumB]
    | cons F a ih => simp [sumH, sumB, ih.1, ih.2, Nat.add_assoc]
  by_cases h : ∃ F, L[posT AF.time t L]? = some F ∧ F.time = t
  · obtain ⟨F, h1, h2⟩ := h
    rw [withT_yes h1 h2]; exact ⟨rfl, rfl, by simp⟩
  · rw [withT_no fun F h1 h2 => h ⟨F, h1, h2⟩]
    have h0 : haveN (AF.new t count now).parts = 0 := haveN_replicate _
    have h00 : bytesN (AF.new t count now).parts = 0 := bytesN_replicate _
    have hp := posT_le AF.time t L
    refine ⟨?_, ?_, ?_⟩
    · rw [(ap _ _).1]; simp only [sumH, h0, Nat.zero_add]; rw [← (ap _ _).1, List.take_append_drop]
    · rw [(ap _ _).2]; simp only [sumB, h00, Nat.zero_add]; rw [← (ap _ _).2, List.take_append_drop]
    · simp [List.length_take, List.length_drop]; omega
theorem withT_parts {t count now : Int} {L : List AF} (h : ∀ F ∈ L, F.parts.length ≤ 255) : ∀ F ∈ (withT t count now L).1, F.parts.length ≤ 255 := by
  by_cases hh : ∃ F, L[posT AF.time t L]? = some F ∧ F.time = t
  · obtain ⟨F, h1, h2⟩ := hh
    rw [withT_yes h1 h2]; exact h
  · rw [withT_no fun F h1 h2 => hh ⟨F, h1, h2⟩]
    intro F hF
    rcases List.mem_append.1 hF with hF | hF
    · exact h F (List.mem_of_mem_take hF)
    · rcases List.mem_cons.1 hF with rfl | hF
      · simp only [AF.new, List.length_replicate]; omega
      · exact h F (List.mem_of_mem_drop hF)
theorem withT_all {t count now : Int} {L : List AF} {Q : AF → Prop} (h : ∀ F ∈ L, Q F) (hn : Q (AF.new t count now)) : ∀ F ∈ (withT t count now L).1, Q F := by
  by_cases hh : ∃ F, L[posT AF.time t L]? = some F ∧ F.time = t
  · obtain ⟨F, h1, h2⟩ := hh
    rw [withT_yes h1 h2]; exact h
  · rw [withT_no fun F h1 h2 => hh ⟨F, h1, h2⟩]
    intro F hF
    rcases List.mem_append.1 hF with hF | hF
    · exact h F (List.mem_of_mem_take hF)
    · rcases List.mem_cons.1 hF with rfl | hF
      · exact hn
      · exact h F (List.mem_of_mem_drop hF)
theorem set_all {α : Type} {l : List α} {Q : α → Prop} (h : ∀ x ∈ l, Q x) (k : Nat) {y : α} (hy : Q y) : ∀ x ∈ l.set k y, Q x := fun x hx => by
  rcases List.mem_or_eq_of_mem_set hx with hx | rfl
  · exact h x hx
  · exact hy
theorem put_len (F : AF) (i c : Int) (s : ByteArray) : (F.put i c s).1.parts.length = F.parts.length ∧ (F.put i c s).1.time = F.time ∧ bytesN (F.put i c s).1.parts ≤ bytesN F.parts + s.size ∧ haveN (F.put i c s).1.parts ≤ haveN F.parts + 1 := by
  unfold AF.put
  split
  · exact ⟨rfl, rfl, by simp, by simp⟩
  · split
    · exact ⟨rfl, rfl, by simp, by simp⟩
    · rename_i h1 h2
      have hn := pat_none (ps := F.parts) (i := i) (by omega) (by omega) (by simpa using h2)
      exact ⟨by simp, rfl, by rw [bytesN_set hn]; exact Nat.le_refl _, by rw [haveN_set hn]; exact Nat.le_refl _⟩
end Go.Cd
namespace Go.Proofs.Ytndanmhgbfjinaa
open Go Go.Sl Go.Cd
attribute [local irreducible] Try.prog cl ro mp mpI clT RowP FrP Big LV OV AV O Ld St Nw VB BS Cl Rd Runs OpR VJ VL RdK MSl Cv And2 binV cvV minV maxV aggO
theorem dF.opn {φ : Asn} {F : AF} {cs : List Value} {R : List Asn} (k : ∀ a1 c1 a2 c2, cs = [.int .i64 F.time, .int .i64 F.first, .slice a1 (hasL F.parts).length c1, .slice a2 (strL F.parts).length c2] →
    Ent (LV dBool (.slice a1 (hasL F.parts).length c1) (hasL F.parts) :: LV dStr (.slice a2 (strL F.parts).length c2) (strL F.parts) :: dF.rep F cs :: R) φ) : Ent (dF.rep F cs :: R) φ := by
  refine Ent.add (A := dF.rep F cs) (by repeat (first | exact has_here | apply has_there)) ?_
  refine Ent.openX P0 dF.open fun v e => ?_
  obtain ⟨v1, v2⟩ := v
  dsimp only [List.cons_append, List.nil_append] at e ⊢
  refine oSlD v1 fun a1 c1 e1 => oSlD v2 fun a2 c2 e2 => ?_
  subst e1 e2
  exact k a1 c1 a2 c2 e
def dB : Dt AB 8 where
  rep X cs h := ∃ v : Value, cs = [.int .i64 X.c.fr, .int .i64 X.c.pk, .int .i64 X.c.by_, v, .int .i64 X.hor, .int .i64 X.pl, .int .i64 X.dr, .int .i64 X.ev] ∧ LV dF v X.L h
  ro _ _ := inferInstance
  len := fun ⟨v, e, _⟩ => by rw [e]; rfl
  ones := fun ⟨v, e, a⟩ => by rw [e]; simp only [List.all_cons, List.all_nil, a.one]; rfl
def bC (X : AB) (a : Option Addr) (c : Nat) : List Value := [.int .i64 X.c.fr, .int .i64 X.c.pk, .int .i64 X.c.by_, .slice a X.L.length c, .int .i64 X.hor, .int .i64 X.pl, .int .i64 X.dr, .int .i64 X.ev]
theorem dB.opn {φ : Asn} {X : AB} {cs : List Value} {R : List Asn} (k : ∀ a c, cs = bC X a c → Ent (LV dF (.slice a X.L.length c) X.L :: dB.rep X cs :: R) φ) : Ent (dB.rep X cs :: R) φ := by
  refine Ent.add (A := dB.rep X cs) (by repeat (first | exact has_here | apply has_there)) ?_
  refine Ent.openX (X := Value) (ψ := fun v => cs = [.int .i64 X.c.fr, .int .i64 X.c.pk, .int .i64 X.c.by_, v, .int .i64 X.hor, .int .i64 X.pl, .int .i64 X.dr, .int .i64 X.ev]) (m := fun v => [LV dF v X.L]) P0 (fun h ⟨v, e, a⟩ => ⟨v, e, star1 a⟩) fun v e => ?_
  dsimp only [List.cons_append, List.nil_append]
  refine oSlD v fun a1 c1 e1 => ?_
  subst e1
  exact k a1 c1 e
theorem dB.close {X : AB} {a : Option Addr} {c : Nat} {h : PH} (q : LV dF (.slice a X.L.length c) X.L h) : dB.rep X (bC X a c) h := ⟨_, rfl, q⟩
theorem clip_ref (c : Cfg) : Ctr Try.prog 17 [.agg #[.int .i64 c.fr, .int .i64 c.pk, .int .i64 c.by_]] [] (fun _ : Unit => .agg #[.int .i64 c.clip.fr, .int .i64 c.clip.pk, .int .i64 c.clip.by_]) (fun _ => True) (fun _ => []) := by
  refine ctr_of e17 ?_
  unfold S17
  (try dsimp only [List.cons_append, List.nil_append, List.append]); repeat (first | (refine isO ?_; first | refine oExt rfl ?_ | refine ent_O rfl ?_ | refine oAgg (by (try simp only [nth, List.getD_cons_zero, List.getD_cons_succ, bldV, placeIn, wrCells, rep, Value.cells, aggV, List.set_cons_zero, List.set_cons_succ, List.length_cons, List.length_nil, List.nil_append, List.cons_append, List.append_nil, List.size_toArray, Option.bind_some, Nat.reduceAdd, Nat.reduceMul, Nat.reduceLeDiff, Nat.reduceEqDiff, Nat.zero_le, Nat.le_refl, true_and, and_self, and_true, if_true]); first | done | rfl) ?_ | refine oMin ?_ | refine oMax ?_ | (refine isCv ?_; first | refine oCv (by omega) (by omega) ?_ | refine oCvW ?_) | (refine isBin ?_; first | (refine is_lss ?_; first | refine oLsT (by omega) ?_ | refine oLsF (by omega) ?_ | refine oLs ?_) | (refine is_leq ?_; first | refine oLeT (by omega) ?_ | refine oLeF (by omega) ?_ | refine oLe ?_) | (refine is_gtr ?_; first | refine oGtT (by omega) ?_ | refine oGtF (by omega) ?_ | refine oGt ?_) | (refine is_geq ?_; first | refine oGeT (by omega) ?_ | refine oGeF (by omega) ?_ | refine oGe ?_) | (refine is_eql ?_; first | refine oEqT (by omega) ?_ | refine oEqF (by omega) ?_ | refine oEq ?_ | refine oEqS ?_) | (refine is_neq ?_; first | refine oNeT (by omega) ?_ | refine oNeF (by omega) ?_ | refine oNe ?_ | refine oNeS ?_) | (refine is_add ?_; first | refine oAdd (by omega) (by omega) ?_ | refine oCatS (by omega) ?_ | refine oAddW ?_) | (refine is_sub ?_; first | refine oSub (by omega) (by omega) ?_ | refine oSubW ?_) | (refine is_mul ?_; first | refine oMul (by omega) (by omega) ?_ | refine oMulW ?_) | refine oBin rfl ?_) | refine oLenD ?_) | (refine isLd ?_; first | refine oLW rfl ?_ | refine oL rfl ?_) | (refine isSt ?_; first | refine oSW rfl rfl rfl ?_ | refine oS rfl rfl rfl (by (try simp only [nth, List.getD_cons_zero, List.getD_cons_succ, bldV, placeIn, wrCells, rep, Value.cells, aggV, List.set_cons_zero, List.set_cons_succ, List.length_cons, List.length_nil, List.nil_append, List.cons_append, List.append_nil, List.size_toArray, Option.bind_some, Nat.reduceAdd, Nat.reduceMul, Nat.reduceLeDiff, Nat.reduceEqDiff, Nat.zero_le, Nat.le_refl, true_and, and_self, and_true, if_true]); first | done | rfl) ?_) | (refine isVB ?_; first | refine ent_true ?_ | refine ent_false ?_) | (refine oN fun nb => ?_) | (refine isRdK ?_; first | refine rdkW rfl ?_ | refine rdk rfl ?_) | (refine isAnd ?_; refine oA (by first | exact ent_undef | (refine oL rfl ?_; exact ent_Is)) ?_))
  exact ent_ret (()) (by rfl) (by trivial) (Shift.of_picks (by repeat (first | exact .nil | apply Picks.cons (by first | exact Pick.ro (by repeat (first | exact has_here | apply has_there)) | exact .per | ((repeat (first | exact Pick.here | apply Pick.there)); done) | (apply Pick.avO; (repeat (first | exact Pick.here | apply Pick.there)); done) | exact Pick.avL (by repeat (first | exact has_here | apply has_there))) | exact Picks.all _)))
theorem bnew_ref (c : Cfg) : Ctr Try.prog 15 [.agg #[.int .i64 c.fr, .int .i64 c.pk, .int .i64 c.by_]] [] aggV (fun _ => True) (fun cs => [dB.rep (AB.new c) cs]) := by
  refine ctr_of e15 ?_
  unfold S15
  (try dsimp only [List.cons_append, List.nil_append, List.append]); repeat (first | (refine isO ?_; first | refine oExt rfl ?_ | refine ent_O rfl ?_ | refine oAgg (by (try simp only [nth, List.getD_cons_zero, List.getD_cons_succ, bldV, placeIn, wrCells, rep, Value.cells, aggV, List.set_cons_zero, List.set_cons_succ, List.length_cons, List.length_nil, List.nil_append, List.cons_append, List.append_nil, List.size_toArray, Option.bind_some, Nat.reduceAdd, Nat.reduceMul, Nat.reduceLeDiff, Nat.reduceEqDiff, Nat.zero_le, Nat.le_refl, true_and, and_self, and_true, if_true]); first | done | rfl) ?_ | refine oMin ?_ | refine oMax ?_ | (refine isCv ?_; first | refine oCv (by omega) (by omega) ?_ | refine oCvW ?_) | (refine isBin ?_; first | (refine is_lss ?_; first | refine oLsT (by omega) ?_ | refine oLsF (by omega) ?_ | refine oLs ?_) | (refine is_leq ?_; first | refine oLeT (by omega) ?_ | refine oLeF (by omega) ?_ | refine oLe ?_) | (refine is_gtr ?_; first | refine oGtT (by omega) ?_ | refine oGtF (by omega) ?_ | refine oGt ?_) | (refine is_geq ?_; first | refine oGeT (by omega) ?_ | refine oGeF (by omega) ?_ | refine oGe ?_) | (refine is_eql ?_; first | refine oEqT (by omega) ?_ | refine oEqF (by omega) ?_ | refine oEq ?_ | refine oEqS ?_) | (refine is_neq ?_; first | refine oNeT (by omega) ?_ | refine oNeF (by omega) ?_ | refine oNe ?_ | refine oNeS ?_) | (refine is_add ?_; first | refine oAdd (by omega) (by omega) ?_ | refine oCatS (by omega) ?_ | refine oAddW ?_) | (refine is_sub ?_; first | refine oSub (by omega) (by omega) ?_ | refine oSubW ?_) | (refine is_mul ?_; first | refine oMul (by omega) (by omega) ?_ | refine oMulW ?_) | refine oBin rfl ?_) | refine oLenD ?_) | (refine isLd ?_; first | refine oLW rfl ?_ | refine oL rfl ?_) | (refine isSt ?_; first | refine oSW rfl rfl rfl ?_ | refine oS rfl rfl rfl (by (try simp only [nth, List.getD_cons_zero, List.getD_cons_succ, bldV, placeIn, wrCells, rep, Value.cells, aggV, List.set_cons_zero, List.set_cons_succ, List.length_cons, List.length_nil, List.nil_append, List.cons_append, List.append_nil, List.size_toArray, Option.bind_some, Nat.reduceAdd, Nat.reduceMul, Nat.reduceLeDiff, Nat.reduceEqDiff, Nat.zero_le, Nat.le_refl, true_and, and_self, and_true, if_true]); first | done | rfl) ?_) | (refine isVB ?_; first | refine ent_true ?_ | refine ent_false ?_) | (refine oN fun nb => ?_) | (refine isRdK ?_; first | refine rdkW rfl ?_ | refine rdk rfl ?_) | (refine isAnd ?_; refine oA (by first | exact ent_undef | (refine oL rfl ?_; exact ent_Is)) ?_))
  (refine Ctr.use (clip_ref c) (by repeat (first | exact .nil | apply Picks.cons (by first | exact Pick.ro (by repeat (first | exact has_here | apply has_there)) | exact .per | ((repeat (first | exact Pick.here | apply Pick.there)); done) | (apply Pick.avO; (repeat (first | exact Pick.here | apply Pick.there)); done) | exact Pick.avL (by repeat (first | exact has_here | apply has_there))) | exact Picks.all _)) fun _ _ => ?_; (try dsimp only [List.cons_append, List.nil_append, List.append]))
  (try dsimp only [List.cons_append, List.nil_append, List.append]); repeat (first | (refine isO ?_; first | refine oExt rfl ?_ | refine ent_O rfl ?_ | refine oAgg (by (try simp only [nth, List.getD_cons_zero, List.getD_cons_succ, bldV, placeIn, wrCells, rep, Value.cells, aggV, List.set_cons_zero, List.set_cons_succ, List.length_cons, List.length_nil, List.nil_append, List.cons_append, List.append_nil, List.size_toArray, Option.bind_some, Nat.reduceAdd, Nat.reduceMul, Nat.reduceLeDiff, Nat.reduceEqDiff, Nat.zero_le, Nat.le_refl, true_and, and_self, and_true, if_true]); first | done | rfl) ?_ | refine oMin ?_ | refine oMax ?_ | (refine isCv ?_; first | refine oCv (by omega) (by omega) ?_ | refine oCvW ?_) | (refine isBin ?_; first | (refine is_lss ?_; first | refine oLsT (by omega) ?_ | refine oLsF (by omega) ?_ | refine oLs ?_) | (refine is_leq ?_; first | refine oLeT (by omega) ?_ | refine oLeF (by omega) ?_ | refine oLe ?_) | (refine is_gtr ?_; first | refine oGtT (by omega) ?_ | refine oGtF (by omega) ?_ | refine oGt ?_) | (refine is_geq ?_; first | refine oGeT (by omega) ?_ | refine oGeF (by omega) ?_ | refine oGe ?_) | (refine is_eql ?_; first | refine oEqT (by omega) ?_ | refine oEqF (by omega) ?_ | refine oEq ?_ | refine oEqS ?_) | (refine is_neq ?_; first | refine oNeT (by omega) ?_ | refine oNeF (by omega) ?_ | refine oNe ?_ | refine oNeS ?_) | (refine is_add ?_; first | refine oAdd (by omega) (by omega) ?_ | refine oCatS (by omega) ?_ | refine oAddW ?_) | (refine is_sub ?_; first | refine oSub (by omega) (by omega) ?_ | refine oSubW ?_) | (refine is_mul ?_; first | refine oMul (by omega) (by omega) ?_ | refine oMulW ?_) | refine oBin rfl ?_) | refine oLenD ?_) | (refine isLd ?_; first | refine oLW rfl ?_ | refine oL rfl ?_) | (refine isSt ?_; first | refine oSW rfl rfl rfl ?_ | refine oS rfl rfl rfl (by (try simp only [nth, List.getD_cons_zero, List.getD_cons_succ, bldV, placeIn, wrCells, rep, Value.cells, aggV, List.set_cons_zero, List.set_cons_succ, List.length_cons, List.length_nil, List.nil_append, List.cons_append, List.append_nil, List.size_toArray, Option.bind_some, Nat.reduceAdd, Nat.reduceMul, Nat.reduceLeDiff, Nat.reduceEqDiff, Nat.zero_le, Nat.le_refl, true_and, and_self, and_true, if_true]); first | done | rfl) ?_) | (refine isVB ?_; first | refine ent_true ?_ | refine ent_false ?_) | (refine oN fun nb => ?_) | (refine isRdK ?_; first | refine rdkW rfl ?_ | refine rdk rfl ?_) | (refine isAnd ?_; refine oA (by first | exact ent_undef | (refine oL rfl ?_; exact ent_Is)) ?_))
  refine oNilL dF ?_
  refine Ent.add (A := dB.rep (AB.new c) (bC (AB.new c) none 0)) (fun h s => dB.close (by revert h s; exact (by repeat (first | exact has_here | apply has_there)))) ?_
  exact ent_ret (_) (by rfl) (by trivial) (Shift.of_picks (by repeat (first | exact .nil | apply Picks.cons (by first | exact Pick.ro (by repeat (first | exact has_here | apply has_there)) | exact .per | ((repeat (first | exact Pick.here | apply Pick.there)); done) | (apply Pick.avO; (repeat (first | exact Pick.here | apply Pick.there)); done) | exact Pick.avL (by repeat (first | exact has_here | apply has_there))) | exact Picks.all _)))
theorem sizes_ref (X : AB) (cs : List Value) (hl : X.L.length ≤ 10000) (hQ : ∀ H ∈ X.L, H.parts.length ≤ 255) (hH : sumH X.L ≤ 1000000000) (hB : sumB X.L ≤ 70368744177664) :
    Ctr Try.prog 36 [aggV cs] [dB.rep X cs] (fun _ : Unit => .tuple #[.int .i64 (sumH X.L), .int .i64 (sumB X.L)]) (fun _ => True) (fun _ => []) := by
  refine ctr_of e36 ?_
  refine dB.opn fun a c e => ?_
  subst e
  unfold S36
  (try dsimp only [List.cons_append, List.nil_append, List.append]); repeat (first | (refine isO ?_; first | refine oExt rfl ?_ | refine ent_O rfl ?_ | refine oAgg (by (try simp only [nth, List.getD_cons_zero, List.getD_cons_succ, bldV, placeIn, wrCells, rep, Value.cells, aggV, List.set_cons_zero, List.set_cons_succ, List.length_cons, List.length_nil, List.nil_append, List.cons_append, List.append_nil, List.size_toArray, Option.bind_some, Nat.reduceAdd, Nat.reduceMul, Nat.reduceLeDiff, Nat.reduceEqDiff, Nat.zero_le, Nat.le_refl, true_and, and_self, and_true, if_true]); first | done | rfl) ?_ | refine oMin ?_ | refine oMax ?_ | (refine isCv ?_; first | refine oCv (by omega) (by omega) ?_ | refine oCvW ?_) | (refine isBin ?_; first | (refine is_lss ?_; first | refine oLsT (by omega) ?_ | refine oLsF (by omega) ?_ | refine oLs ?_) | (refine is_leq ?_; first | refine oLeT (by omega) ?_ | refine oLeF (by omega) ?_ | refine oLe ?_) | (refine is_gtr ?_; first | refine oGtT (by omega) ?_ | refine oGtF (by omega) ?_ | refine oGt ?_) | (refine is_geq ?_; first | refine oGeT (by omega) ?_ | refine oGeF (by omega) ?_ | refine oGe ?_) | (refine is_eql ?_; first | refine oEqT (by omega) ?_ | refine oEqF (by omega) ?_ | refine oEq ?_ | refine oEqS ?_) | (refine is_neq ?_; first | refine oNeT (by omega) ?_ | refine oNeF (by omega) ?_ | refine oNe ?_ | refine oNeS ?_) | (refine is_add ?_; first | refine oAdd (by omega) (by omega) ?_ | refine oCatS (by omega) ?_ | refine oAddW ?_) | (refine is_sub ?_; first | refine oSub (by omega) (by omega) ?_ | refine oSubW ?_) | (refine is_mul ?_; first | refine oMul (by omega) (by omega) ?_ | refine oMulW ?_) | refine oBin rfl ?_) | refine oLenD ?_) | (refine isLd ?_; first | refine oLW rfl ?_ | refine oL rfl ?_) | (refine isSt ?_; first | refine oSW rfl rfl rfl ?_ | refine oS rfl rfl rfl (by (try simp only [nth, List.getD_cons_zero, List.getD_cons_succ, bldV, placeIn, wrCells, rep, Value.cells, aggV, List.set_cons_zero, List.set_cons_succ, List.length_cons, List.length_nil, List.nil_append, List.cons_append, List.append_nil, List.size_toArray, Option.bind_some, Nat.reduceAdd, Nat.reduceMul, Nat.reduceLeDiff, Nat.reduceEqDiff, Nat.zero_le, Nat.le_refl, true_and, and_self, and_true, if_true]); first | done | rfl) ?_) | (refine isVB ?_; first | refine ent_true ?_ | refine ent_false ?_) | (refine oN fun nb => ?_) | (refine isRdK ?_; first | refine rdkW rfl ?_ | refine rdk rfl ?_) | (refine isAnd ?_; refine oA (by first | exact ent_undef | (refine oL rfl ?_; exact ent_Is)) ?_))
  refine ent_range (S := Unit) X.L.length (fun i _ => [.int .i64 (sumH (X.L.take i)), .int .i64 (sumB (X.L.take i)), .int .i64 i]) (fun _ _ => True) (fun _ _ => []) () rfl trivial (by repeat (first | exact .nil | apply Picks.cons (by first | exact Pick.ro (by repeat (first | exact has_here | apply has_there)) | exact .per | ((repeat (first | exact Pick.here | apply Pick.there)); done) | (apply Pick.avO; (repeat (first | exact Pick.here | apply Pick.there)); done) | exact Pick.avL (by repeat (first | exact has_here | apply has_there))) | exact Picks.all _)) ?_ ?_
  · intro i _ _ hi j kk ag
    (try dsimp only [List.cons_append, List.nil_append, List.append]); repeat (first | (refine isO ?_; first | refine oExt rfl ?_ | refine ent_O rfl ?_ | refine oAgg (by (try simp only [nth, List.getD_cons_zero, List.getD_cons_succ, bldV, placeIn, wrCells, rep, Value.cells, aggV, List.set_cons_zero, List.set_cons_succ, List.length_cons, List.length_nil, List.nil_append, List.cons_append, List.append_nil, List.size_toArray, Option.bind_some, Nat.reduceAdd, Nat.reduceMul, Nat.reduceLeDiff, Nat.reduceEqDiff, Nat.zero_le, Nat.le_refl, true_and, and_self, and_true, if_true]); first | done | rfl) ?_ | refine oMin ?_ | refine oMax ?_ | (refine isCv ?_; first | refine oCv (by omega) (by omega) ?_ | refine oCvW ?_) | (refine isBin ?_; first | (refine is_lss ?_; first | refine oLsT (by omega) ?_ | refine oLsF (by omega) ?_ | refine oLs ?_) | (refine is_leq ?_; first | refine oLeT (by omega) ?_ | refine oLeF (by omega) ?_ | refine oLe ?_) | (refine is_gtr ?_; first | refine oGtT (by omega) ?_ | refine oGtF (by omega) ?_ | refine oGt ?_) | (refine is_geq ?_; first | refine oGeT (by omega) ?_ | refine oGeF (by omega) ?_ | refine oGe ?_) | (refine is_eql ?_; first | refine oEqT (by omega) ?_ | refine oEqF (by omega) ?_ | refine oEq ?_ | refine oEqS ?_) | (refine is_neq ?_; first | refine oNeT (by omega) ?_ | refine oNeF (by omega) ?_ | refine oNe ?_ | refine oNeS ?_) | (refine is_add ?_; first | refine oAdd (by omega) (by omega) ?_ | refine oCatS (by omega) ?_ | refine oAddW ?_) | (refine is_sub ?_; first | refine oSub (by omega) (by omega) ?_ | refine oSubW ?_) | (refine is_mul ?_; first | refine oMul (by omega) (by omega) ?_ | refine oMulW ?_) | refine oBin rfl ?_) | refine oLenD ?_) | (refine isLd ?_; first | refine oLW rfl ?_ | refine oL rfl ?_) | (refine isSt ?_; first | refine oSW rfl rfl rfl ?_ | refine oS rfl rfl rfl (by (try simp only [nth, List.getD_cons_zero, List.getD_cons_succ, bldV, placeIn, wrCells, rep, Value.cells, aggV, List.set_cons_zero, List.set_cons_succ, List.length_cons, List.length_nil, List.nil_append, List.cons_append, List.append_nil, List.size_toArray, Option.bind_some, Nat.reduceAdd, Nat.reduceMul, Nat.reduceLeDiff, Nat.reduceEqDiff, Nat.zero_le, Nat.le_refl, true_and, and_self, and_true, if_true]); first | done | rfl) ?_) | (refine isVB ?_; first | refine ent_true ?_ | refine ent_false ?_) | (refine oN fun nb => ?_) | (refine isRdK ?_; first | refine rdkW rfl ?_ | refine rdk rfl ?_) | (refine isAnd ?_; refine oA (by first | exact ent_undef | (refine oL rfl ?_; exact ent_Is)) ?_))
    refine oAtD i rfl hi fun F fs hF => ?_
    refine dF.opn fun a1 c1 a2 c2 e => ?_
    subst e
    have hm := hQ F (List.mem_of_getElem? hF)
    have hl1 : (hasL F.parts).length = F.parts.length := by unfold hasL; rw [List.length_map]
    have hFb := sumB_le hF
    have hFh := sumH_le hF
    have hk := lk_length F.parts
    have ht1 : sumH (X.L.take (i + 1)) = sumH (X.L.take i) + haveN F.parts := by
      obtain ⟨hlt, e⟩ := List.getElem?_eq_some_iff.1 hF
      rw [List.take_succ_eq_append_getElem hlt, sumH_append, e]; simp [sumH]
    have ht2 : sumB (X.L.take (i + 1)) = sumB (X.L.take i) + bytesN F.parts := by
      obtain ⟨hlt, e⟩ := List.getElem?_eq_some_iff.1 hF
      rw [List.take_succ_eq_append_getElem hlt, sumB_append, e]; simp [sumB]
    have hs1 : sumH (X.L.take (i + 1)) ≤ sumH X.L := by
      have := sumH_append (X.L.take (i + 1)) (X.L.drop (i + 1)); rw [List.take_append_drop] at this; omega
    have hs2 : sumB (X.L.take (i + 1)) ≤ sumB X.L := by
      have := sumB_append (X.L.take (i + 1)) (X.L.drop (i + 1)); rw [List.take_append_drop] at this; omega
    (try dsimp only [List.cons_append, List.nil_append, List.append]); repeat (first | (refine isO ?_; first | refine oExt rfl ?_ | refine ent_O rfl ?_ | refine oAgg (by (try simp only [nth, List.getD_cons_zero, List.getD_cons_succ, bldV, placeIn, wrCells, rep, Value.cells, aggV, List.set_cons_zero, List.set_cons_succ, List.length_cons, List.length_nil, List.nil_append, List.cons_append, List.append_nil, List.size_toArray, Option.bind_some, Nat.reduceAdd, Nat.reduceMul, Nat.reduceLeDiff, Nat.reduceEqDiff, Nat.zero_le, Nat.le_refl, true_and, and_self, and_true, if_true]); first | done | rfl) ?_ | refine oMin ?_ | refine oMax ?_ | (refine isCv ?_; first | refine oCv (by omega) (by omega) ?_ | refine oCvW ?_) | (refine isBin ?_; first | (refine is_lss ?_; first | refine oLsT (by omega) ?_ | refine oLsF (by omega) ?_ | refine oLs ?_) | (refine is_leq ?_; first | refine oLeT (by omega) ?_ | refine oLeF (by omega) ?_ | refine oLe ?_) | (refine is_gtr ?_; first | refine oGtT (by omega) ?_ | refine oGtF (by omega) ?_ | refine oGt ?_) | (refine is_geq ?_; first | refine oGeT (by omega) ?_ | refine oGeF (by omega) ?_ | refine oGe ?_) | (refine is_eql ?_; first | refine oEqT (by omega) ?_ | refine oEqF (by omega) ?_ | refine oEq ?_ | refine oEqS ?_) | (refine is_neq ?_; first | refine oNeT (by omega) ?_ | refine oNeF (by omega) ?_ | refine oNe ?_ | refine oNeS ?_) | (refine is_add ?_; first | refine oAdd (by omega) (by omega) ?_ | refine oCatS (by omega) ?_ | refine oAddW ?_) | (refine is_sub ?_; first | refine oSub (by omega) (by omega) ?_ | refine oSubW ?_) | (refine is_mul ?_; first | refine oMul (by omega) (by omega) ?_ | refine oMulW ?_) | refine oBin rfl ?_) | refine oLenD ?_) | (refine isLd ?_; first | refine oLW rfl ?_ | refine oL rfl ?_) | (refine isSt ?_; first | refine oSW rfl rfl rfl ?_ | refine oS rfl rfl rfl (by (try simp only [nth, List.getD_cons_zero, List.getD_cons_succ, bldV, placeIn, wrCells, rep, Value.cells, aggV, List.set_cons_zero, List.set_cons_succ, List.length_cons, List.length_nil, List.nil_append, List.cons_append, List.append_nil, List.size_toArray, Option.bind_some, Nat.reduceAdd, Nat.reduceMul, Nat.reduceLeDiff, Nat.reduceEqDiff, Nat.zero_le, Nat.le_refl, true_and, and_self, and_true, if_true]); first | done | rfl) ?_) | (refine isVB ?_; first | refine ent_true ?_ | refine ent_false ?_) | (refine oN fun nb => ?_) | (refine isRdK ?_; first | refine rdkW rfl ?_ | refine rdk rfl ?_) | (refine isAnd ?_; refine oA (by first | exact ent_undef | (refine oL rfl ?_; exact ent_Is)) ?_))
    refine Ctr.use (lacks_fn F _ hm) (by repeat (first | exact .nil | apply Picks.cons (by first | exact Pick.ro (by repeat (first | exact has_here | apply has_there)) | exact .per | ((repeat (first | exact Pick.here | apply Pick.there)); done) | (apply Pick.avO; (repeat (first | exact Pick.here | apply Pick.there)); done) | exact Pick.avL (by repeat (first | exact has_here | apply has_there))) | exact Picks.all _)) fun v _ => ?_
    (try dsimp only [List.cons_append, List.nil_append, List.append]); repeat (first | (refine isO ?_; first | refine oExt rfl ?_ | refine ent_O rfl ?_ | refine oAgg (by (try simp only [nth, List.getD_cons_zero, List.getD_cons_succ, bldV, placeIn, wrCells, rep, Value.cells, aggV, List.set_cons_zero, List.set_cons_succ, List.length_cons, List.length_nil, List.nil_append, List.cons_append, List.append_nil, List.size_toArray, Option.bind_some, Nat.reduceAdd, Nat.reduceMul, Nat.reduceLeDiff, Nat.reduceEqDiff, Nat.zero_le, Nat.le_refl, true_and, and_self, and_true, if_true]); first | done | rfl) ?_ | refine oMin ?_ | refine oMax ?_ | (refine isCv ?_; first | refine oCv (by omega) (by omega) ?_ | refine oCvW ?_) | (refine isBin ?_; first | (refine is_lss ?_; first | refine oLsT (by omega) ?_ | refine oLsF (by omega) ?_ | refine oLs ?_) | (refine is_leq ?_; first | refine oLeT (by omega) ?_ | refine oLeF (by omega) ?_ | refine oLe ?_) | (refine is_gtr ?_; first | refine oGtT (by omega) ?_ | refine oGtF (by omega) ?_ | refine oGt ?_) | (refine is_geq ?_; first | refine oGeT (by omega) ?_ | refine oGeF (by omega) ?_ | refine oGe ?_) | (refine is_eql ?_; first | refine oEqT (by omega) ?_ | refine oEqF (by omega) ?_ | refine oEq ?_ | refine oEqS ?_) | (refine is_neq ?_; first | refine oNeT (by omega) ?_ | refine oNeF (by omega) ?_ | refine oNe ?_ | refine oNeS ?_) | (refine is_add ?_; first | refine oAdd (by omega) (by omega) ?_ | refine oCatS (by omega) ?_ | refine oAddW ?_) | (refine is_sub ?_; first | refine oSub (by omega) (by omega) ?_ | refine oSubW ?_) | (refine is_mul ?_; first | refine oMul (by omega) (by omega) ?_ | refine oMulW ?_) | refine oBin rfl ?_) | refine oLenD ?_) | (refine isLd ?_; first | refine oLW rfl ?_ | refine oL rfl ?_) | (refine isSt ?_; first | refine oSW rfl rfl rfl ?_ | refine oS rfl rfl rfl (by (try simp only [nth, List.getD_cons_zero, List.getD_cons_succ, bldV, placeIn, wrCells, rep, Value.cells, aggV, List.set_cons_zero, List.set_cons_succ, List.length_cons, List.length_nil, List.nil_append, List.cons_append, List.append_nil, List.size_toArray, Option.bind_some, Nat.reduceAdd, Nat.reduceMul, Nat.reduceLeDiff, Nat.reduceEqDiff, Nat.zero_le, Nat.le_refl, true_and, and_self, and_true, if_true]); first | done | rfl) ?_) | (refine isVB ?_; first | refine ent_true ?_ | refine ent_false ?_) | (refine oN fun nb => ?_) | (refine isRdK ?_; first | refine rdkW rfl ?_ | refine rdk rfl ?_) | (refine isAnd ?_; refine oA (by first | exact ent_undef | (refine oL rfl ?_; exact ent_Is)) ?_))
    refine Ctr.use (data_ref F _ hm (by omega)) (by repeat (first | exact .nil | apply Picks.cons (by first | exact Pick.ro (by repeat (first | exact has_here | apply has_there)) | exact .per | ((repeat (first | exact Pick.here | apply Pick.there)); done) | (apply Pick.avO; (repeat (first | exact Pick.here | apply Pick.there)); done) | exact Pick.avL (by repeat (first | exact has_here | apply has_there))) | exact Picks.all _)) fun _ _ => ?_
    (try dsimp only [List.cons_append, List.nil_append, List.append]); repeat (first | (refine isO ?_; first | refine oExt rfl ?_ | refine ent_O rfl ?_ | refine oAgg (by (try simp only [nth, List.getD_cons_zero, List.getD_cons_succ, bldV, placeIn, wrCells, rep, Value.cells, aggV, List.set_cons_zero, List.set_cons_succ, List.length_cons, List.length_nil, List.nil_append, List.cons_append, List.append_nil, List.size_toArray, Option.bind_some, Nat.reduceAdd, Nat.reduceMul, Nat.reduceLeDiff, Nat.reduceEqDiff, Nat.zero_le, Nat.le_refl, true_and, and_self, and_true, if_true]); first | done | rfl) ?_ | refine oMin ?_ | refine oMax ?_ | (refine isCv ?_; first | refine oCv (by omega) (by omega) ?_ | refine oCvW ?_) | (refine isBin ?_; first | (refine is_lss ?_; first | refine oLsT (by omega) ?_ | refine oLsF (by omega) ?_ | refine oLs ?_) | (refine is_leq ?_; first | refine oLeT (by omega) ?_ | refine oLeF (by omega) ?_ | refine oLe ?_) | (refine is_gtr ?_; first | refine oGtT (by omega) ?_ | refine oGtF (by omega) ?_ | refine oGt ?_) | (refine is_geq ?_; first | refine oGeT (by omega) ?_ | refine oGeF (by omega) ?_ | refine oGe ?_) | (refine is_eql ?_; first | refine oEqT (by omega) ?_ | refine oEqF (by omega) ?_ | refine oEq ?_ | refine oEqS ?_) | (refine is_neq ?_; first | refine oNeT (by omega) ?_ | refine oNeF (by omega) ?_ | refine oNe ?_ | refine oNeS ?_) | (refine is_add ?_; first | refine oAdd (by omega) (by omega) ?_ | refine oCatS (by omega) ?_ | refine oAddW ?_) | (refine is_sub ?_; first | refine oSub (by omega) (by omega) ?_ | refine oSubW ?_) | (refine is_mul ?_; first | refine oMul (by omega) (by omega) ?_ | refine oMulW ?_) | refine oBin rfl ?_) | refine oLenD ?_) | (refine isLd ?_; first | refine oLW rfl ?_ | refine oL rfl ?_) | (refine isSt ?_; first | refine oSW rfl rfl rfl ?_ | refine oS rfl rfl rfl (by (try simp only [nth, List.getD_cons_zero, List.getD_cons_succ, bldV, placeIn, wrCells, rep, Value.cells, aggV, List.set_cons_zero, List.set_cons_succ, List.length_cons, List.length_nil, List.nil_append, List.cons_append, List.append_nil, List.size_toArray, Option.bind_some, Nat.reduceAdd, Nat.reduceMul, Nat.reduceLeDiff, Nat.reduceEqDiff, Nat.zero_le, Nat.le_refl, true_and, and_self, and_true, if_true]); first | done | rfl) ?_) | (refine isVB ?_; first | refine ent_true ?_ | refine ent_false ?_) | (refine oN fun nb => ?_) | (refine isRdK ?_; first | refine rdkW rfl ?_ | refine rdk rfl ?_) | (refine isAnd ?_; refine oA (by first | exact ent_undef | (refine oL rfl ?_; exact ent_Is)) ?_))
    refine Ent.again (ag () trivial) ?_ (by repeat (first | exact .nil | apply Picks.cons (by first | exact Pick.ro (by repeat (first | exact has_here | apply has_there)) | exact .per | ((repeat (first | exact Pick.here | apply Pick.there)); done) | (apply Pick.avO; (repeat (first | exact Pick.here | apply Pick.there)); done) | exact Pick.avL (by repeat (first | exact has_here | apply has_there))) | exact Picks.all _))
    rw [ht1, ht2]
    congr 1
    · congr 1; omega
  · intro _ _ j kk
    rw [List.take_length]
    (try dsimp only [List.cons_append, List.nil_append, List.append]); repeat (first | (refine isO ?_; first | refine oExt rfl ?_ | refine ent_O rfl ?_ | refine oAgg (by (try simp only [nth, List.getD_cons_zero, List.getD_cons_succ, bldV, placeIn, wrCells, rep, Value.cells, aggV, List.set_cons_zero, List.set_cons_succ, List.length_cons, List.length_nil, List.nil_append, List.cons_append, List.append_nil, List.size_toArray, Option.bind_some, Nat.reduceAdd, Nat.reduceMul, Nat.reduceLeDiff, Nat.reduceEqDiff, Nat.zero_le, Nat.le_refl, true_and, and_self, and_true, if_true]); first | done | rfl) ?_ | refine oMin ?_ | refine oMax ?_ | (refine isCv ?_; first | refine oCv (by omega) (by omega) ?_ | refine oCvW ?_) | (refine isBin ?_; first | (refine is_lss ?_; first | refine oLsT (by omega) ?_ | refine oLsF (by omega) ?_ | refine oLs ?_) | (refine is_leq ?_; first | refine oLeT (by omega) ?_ | refine oLeF (by omega) ?_ | refine oLe ?_) | (refine is_gtr ?_; first | refine oGtT (by omega) ?_ | refine oGtF (by omega) ?_ | refine oGt ?_) | (refine is_geq ?_; first | refine oGeT (by omega) ?_ | refine oGeF (by omega) ?_ | refine oGe ?_) | (refine is_eql ?_; first | refine oEqT (by omega) ?_ | refine oEqF (by omega) ?_ | refine oEq ?_ | refine oEqS ?_) | (refine is_neq ?_; first | refine oNeT (by omega) ?_ | refine oNeF (by omega) ?_ | refine oNe ?_ | refine oNeS ?_) | (refine is_add ?_; first | refine oAdd (by omega) (by omega) ?_ | refine oCatS (by omega) ?_ | refine oAddW ?_) | (refine is_sub ?_; first | refine oSub (by omega) (by omega) ?_ | refine oSubW ?_) | (refine is_mul ?_; first | refine oMul (by omega) (by omega) ?_ | refine oMulW ?_) | refine oBin rfl ?_) | refine oLenD ?_) | (refine isLd ?_; first | refine oLW rfl ?_ | refine oL rfl ?_) | (refine isSt ?_; first | refine oSW rfl rfl rfl ?_ | refine oS rfl rfl rfl (by (try simp only [nth, List.getD_cons_zero, List.getD_cons_succ, bldV, placeIn, wrCells, rep, Value.cells, aggV, List.set_cons_zero, List.set_cons_succ, List.length_cons, List.length_nil, List.nil_append, List.cons_append, List.append_nil, List.size_toArray, Option.bind_some, Nat.reduceAdd, Nat.reduceMul, Nat.reduceLeDiff, Nat.reduceEqDiff, Nat.zero_le, Nat.le_refl, true_and, and_self, and_true, if_true]); first | done | rfl) ?_) | (refine isVB ?_; first | refine ent_true ?_ | refine ent_false ?_) | (refine oN fun nb => ?_) | (refine isRdK ?_; first | refine rdkW rfl ?_ | refine rdk rfl ?_) | (refine isAnd ?_; refine oA (by first | exact ent_undef | (refine oL rfl ?_; exact ent_Is)) ?_))
    exact ent_ret (()) (by rfl) (by trivial) (Shift.of_picks (by repeat (first | exact .nil | apply Picks.cons (by first | exact Pick.ro (by repeat (first | exact has_here | apply has_there)) | exact .per | ((repeat (first | exact Pick.here | apply Pick.there)); done) | (apply Pick.avO; (repeat (first | exact Pick.here | apply Pick.there)); done) | exact Pick.avL (by repeat (first | exact has_here | apply has_there))) | exact Picks.all _)))
end Go.Proofs.Ytndanmhgbfjinaa
namespace Go.Cd
open Go Go.Sl
def insStep (t i c : Int) (s : ByteArray) (now : Int) (st : List AF × Int × Bool) (f : AF) : List AF × Int × Bool :=
  let r := (AF.new t c now).put i c s
  let st1 := if st.2.2 = false ∧ f.time > t then (st.1 ++ [r.1], r.2, true) else st
  if f.time = t then (st1.1 ++ [(f.put i c s).1], (f.put i c s).2, true) else (st1.1 ++ [f], st1.2.1, st1.2.2)
def insFin (t i c : Int) (s : ByteArray) (now : Int) (st : List AF × Int × Bool) : List AF × Int :=
  let r := (AF.new t c now).put i c s
  if st.2.2 = false then (st.1 ++ [r.1], r.2) else (st.1, st.2.1)
theorem insStep_done (t i c : Int) (s : ByteArray) (now : Int) (L : List AF) : ∀ (l0 : List AF) (k : Int), (∀ f ∈ L, t < f.time) → L.foldl (insStep t i c s now) (l0, k, true) = (l0 ++ L, k, true) := by
  induction L with
  | nil => intro l0 k _; simp
  | cons f L ih =>
    intro l0 k h
    have h1 := h f (by simp)
    have e : insStep t i c s now (l0, k, true) f = (l0 ++ [f], k, true) := by
      have : f.time ≠ t := by omega
      simp [insStep, this]
    rw [List.foldl_cons, e, ih _ _ (fun g hg => h g (by simp [hg]))]
    simp
theorem insPut_fold (t i c : Int) (s : ByteArray) (now : Int) (L : List AF) (hs : L.Pairwise fun a b => a.time < b.time) : ∀ (l0 : List AF) (k : Int),
    insFin t i c s now (L.foldl (insStep t i c s now) (l0, k, false)) = (l0 ++ (insPut t i c s now L).1, (insPut t i c s now L).2) := by
  induction L with
  | nil => intro l0 k; simp [insFin, insPut]
  | cons f L ih =>
    intro l0 k
    rw [List.pairwise_cons] at hs
    rw [List.foldl_cons]
    by_cases h1 : f.time = t
    · have e : insStep t i c s now (l0, k, false) f = (l0 ++ [(f.put i c s).1], (f.put i c s).2, true) := by
        simp [insStep, h1]
      rw [e, insStep_done _ _ _ _ _ _ _ _ (fun g hg => by have := hs.1 g hg; omega)]
      simp [insFin, insPut, h1]
    · by_cases h2 : t < f.time
      · have e : insStep t i c s now (l0, k, false) f = (l0 ++ [((AF.new t c now).put i c s).1] ++ [f], ((AF.new t c now).put i c s).2, true) := by
          simp [insStep, h1, h2]
        rw [e, insStep_done _ _ _ _ _ _ _ _ (fun g hg => by have := hs.1 g hg; omega)]
        simp [insFin, insPut, h1, h2]
      · have e : insStep t i c s now (l0, k, false) f = (l0 ++ [f], k, false) := by
          have : ¬ f.time > t := h2
          simp [insStep, h1, this]
        rw [e, ih hs.2]
        simp [insPut, h1, h2]
theorem insStep_len (t i c : Int) (s : ByteArray) (now : Int) (st : List AF × Int × Bool) (f : AF) : (insStep t i c s now st f).1.length ≤ st.1.length + 2 := by
  unfold insStep
  dsimp only
  split <;> split <;> simp
theorem insFold_len (t i c : Int) (s : ByteArray) (now : Int) (L : List AF) : ∀ st, (L.foldl (insStep t i c s now) st).1.length ≤ st.1.length + 2 * L.length := by
  induction L with
  | nil => intro st; simp
  | cons f L ih => intro st; rw [List.foldl_cons]; have := ih (insStep t i c s now st f); have := insStep_len t i c s now st f; simp; omega
end Go.Cd
