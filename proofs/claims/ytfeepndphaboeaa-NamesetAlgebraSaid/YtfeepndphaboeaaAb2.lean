/-
  THE ABSTRACT WALK: what data and slots stand for in a world.
-/
import Derived.Test.YtfeepndphaboeaaAb1
import Derived.Laws.AppendOwn
import Derived.Laws.Build
import Derived.Laws.Sem
set_option linter.unusedVariables false
set_option linter.unusedSimpArgs false
namespace Go.Proofs.Ytfeepndphaboeaa.Ab
open Go Go.RowKit

/-- data of one cell -/
def D.one : D → Bool
  | .agg _ => false
  | _ => true

section
variable (w : World) (St : Nat → Nat → Prop)

/-- a value that stands for data, in memory that stays -/
inductive RepD : D → Value → Prop
  | bool (b : Bool) : RepD (.bool b) (.bool b)
  | int (k : IntKind) (n : Int) (h : wfI k n = true) : RepD (.int k n) (.int k n)
  | str (s : ByteArray) (h : s.size ≤ maxLen) : RepD (.str s.data.toList) (.string s)
  | agg (ds : List D) (vs : Array Value) (hf : ∀ d ∈ ds, d.one = true) (hl : ds.length = vs.size) (hc : ∀ (i : Nat) d v, ds[i]? = some d → vs[i]? = some v → RepD d v) : RepD (.agg ds) (.agg vs)
  | nilsl (sz : Nat) : RepD (.sl .nil sz []) (.slice none 0 0)
  | sl (sz : Nat) (L : List D) (b off cap : Nat) (vs : Nat → Value) (hcap : L.length ≤ cap) (hm : L.length ≤ maxLen) (hsz : ∀ x ∈ L, x.cells.length = sz)
      (hf : ∀ x ∈ L, ∀ c ∈ x.cells, c.one = true) (hcell : ∀ (o : Nat), o < L.length * sz → w.cell? ⟨b, off + o, none⟩ = some (vs o) ∧ St b (off + o))
      (hc : ∀ (i : Nat) x (j : Nat) c, L[i]? = some x → x.cells[j]? = some c → RepD c (vs (i * sz + j))) :
      RepD (.sl .ro sz L) (.slice (some ⟨b, off, none⟩) L.length cap)
  | slz (sz : Nat) (a : Addr) (cap : Nat) (ha : a.spot ≠ none) : RepD (.sl .ro sz []) (.slice (some a) 0 cap)
  | fn (f : Fn) : RepD (.fn f) (.func f #[] #[])
  | nilfn : RepD .nilfn .nilFunc
  | iface (t : TypeId) (x : D) (v : Value) (h : RepD x v) : RepD (.iface t x) (.iface t v)
  | nilif : RepD .nilif .nilIface
  | nilptr : RepD .nilptr (.pointer none)

/-- a value that stands for what a slot holds; O: what is known of the row of an owned slice (its block, its end, the row's end) -/
inductive RepV (base : Nat) : (Nat → Nat → Nat → Prop) → SV → Value → Prop
  | d (O : Nat → Nat → Nat → Prop) (x : D) (v : Value) (h : RepD w St x v) : RepV base O (.d x) v
  | own (O : Nat → Nat → Nat → Prop) (sz : Nat) (L : List D) (g cap : Nat) (h : RepD w St (.sl .ro sz L) (.slice (some ⟨g, 0, none⟩) L.length cap)) (hcap : cap ≤ maxLen)
      (ho : O g (L.length * sz) (cap * sz)) : RepV base O (.own sz L) (.slice (some ⟨g, 0, none⟩) L.length cap)
  | full (O : Nat → Nat → Nat → Prop) (sz : Nat) (L : List D) (a : Addr) (h : RepD w St (.sl .ro sz L) (.slice (some a) L.length L.length)) :
      RepV base O (.full sz L) (.slice (some a) L.length L.length)
  | ref (O : Nat → Nat → Nat → Prop) (cs : List SV) (off b o : Nat) (vs : Nat → Value) (hb : b < base)
      (hcell : ∀ (i : Nat), i < cs.length → w.cell? ⟨b, o + i, none⟩ = some (vs i) ∧ (vs i).oneCell' = true)
      (hc : ∀ (i : Nat) c, cs[i]? = some c → RepV base (fun _ _ _ => False) c (vs i)) : RepV base O (.ref cs off) (.pointer (some ⟨b, o + off, none⟩))
  | dptr (O : Nat → Nat → Nat → Prop) (x : D) (off b o : Nat) (vs : Nat → Value) (hf : ∀ c ∈ x.cells, c.one = true)
      (hcell : ∀ (i : Nat), i < x.cells.length → w.cell? ⟨b, o + i, none⟩ = some (vs i) ∧ St b (o + i))
      (hc : ∀ (i : Nat) c, x.cells[i]? = some c → RepD w St c (vs i)) : RepV base O (.dptr x off) (.pointer (some ⟨b, o + off, none⟩))
  | clo (O : Nat → Nat → Nat → Prop) (f : Fn) (first cap : List SV) (fv cv : Array Value) (hf : first.length = fv.size) (hc : cap.length = cv.size)
      (rf : ∀ (i : Nat) x v, first[i]? = some x → fv[i]? = some v → RepV base (fun _ _ _ => False) x v)
      (rc : ∀ (i : Nat) x v, cap[i]? = some x → cv[i]? = some v → RepV base (fun _ _ _ => False) x v) : RepV base O (.clo f first cap) (.func f fv cv)
  | undef (O : Nat → Nat → Nat → Prop) (v : Value) : RepV base O .undef v
end

theorem RepD.mono {w w' : World} {St St' : Nat → Nat → Prop} (h : ∀ b o, St b o → St' b o ∧ w'.cell? ⟨b, o, none⟩ = w.cell? ⟨b, o, none⟩) {d : D} {v : Value}
    (r : RepD w St d v) : RepD w' St' d v := by
  induction r with
  | bool b => exact .bool b
  | int k n hk => exact .int k n hk
  | str s hs => exact .str s hs
  | agg ds vs hf hl _ ih => exact .agg ds vs hf hl ih
  | nilsl sz => exact .nilsl sz
  | sl sz L b off cap vs hcap hm hsz hf hcell _ ih =>
    exact .sl sz L b off cap vs hcap hm hsz hf (fun o ho => ⟨(h _ _ (hcell o ho).2).2.trans (hcell o ho).1, (h _ _ (hcell o ho).2).1⟩) ih
  | slz sz a cap ha => exact .slz sz a cap ha
  | fn f => exact .fn f
  | nilfn => exact .nilfn
  | iface t x v _ ih => exact .iface t x v ih
  | nilif => exact .nilif
  | nilptr => exact .nilptr

theorem RepV.mono {w w' : World} {St St' : Nat → Nat → Prop} {base : Nat} (h : ∀ b o, St b o → St' b o ∧ w'.cell? ⟨b, o, none⟩ = w.cell? ⟨b, o, none⟩)
    (hb : ∀ b o, b < base → w'.cell? ⟨b, o, none⟩ = w.cell? ⟨b, o, none⟩) {O : Nat → Nat → Nat → Prop} {x : SV} {v : Value} (r : RepV w St base O x v) :
    ∀ O' : Nat → Nat → Nat → Prop, (∀ g a c, O g a c → O' g a c) → RepV w' St' base O' x v := by
  induction r with
  | d O x v hd => exact fun O' _ => .d O' x v (hd.mono h)
  | own O sz L g cap hd hcap ho => exact fun O' hO => .own O' sz L g cap (hd.mono h) hcap (hO _ _ _ ho)
  | full O sz L a hd => exact fun O' _ => .full O' sz L a (hd.mono h)
  | ref O cs off b o vs hbb hcell _ ih => exact fun O' _ => .ref O' cs off b o vs hbb (fun i hi => ⟨(hb _ _ hbb).trans (hcell i hi).1, (hcell i hi).2⟩) fun i c hc => ih i c hc _ (fun _ _ _ h => h)
  | dptr O x off b o vs hf hcell hc =>
    exact fun O' _ => .dptr O' x off b o vs hf (fun i hi => ⟨(h _ _ (hcell i hi).2).2.trans (hcell i hi).1, (h _ _ (hcell i hi).2).1⟩) fun i c hi => (hc i c hi).mono h
  | clo O f first cap fv cv hf hc _ _ ihf ihc => exact fun O' _ => .clo O' f first cap fv cv hf hc (fun i x v a b => ihf i x v a b _ (fun _ _ _ h => h)) (fun i x v a b => ihc i x v a b _ (fun _ _ _ h => h))
  | undef O v => exact fun O' _ => .undef O' v

/-- what is read from now on -/
theorem RepV.demote {w : World} {St : Nat → Nat → Prop} {base : Nat} {O O' : Nat → Nat → Nat → Prop} {x : SV} {v : Value} (r : RepV w St base O x v) : RepV w St base O' (demote x) v := by
  cases r with
  | d _ x v hd => exact .d _ x v hd
  | own _ sz L g cap hd hcap ho => exact .d _ _ _ hd
  | full _ sz L a hd => exact .full _ sz L a hd
  | ref _ cs off b o vs hbb hcell hc => exact .ref _ cs off b o vs hbb hcell hc
  | dptr _ x off b o vs hf hcell hc => exact .dptr _ x off b o vs hf hcell hc
  | clo _ f first cap fv cv hf hc rf rc => exact .clo _ f first cap fv cv hf hc rf rc
  | undef _ v => exact .undef _ _

theorem RepV.toD {w : World} {St : Nat → Nat → Prop} {base : Nat} {O : Nat → Nat → Nat → Prop} {x : SV} {v : Value} (r : RepV w St base O x v) {y : D} (h : Ab.toD x = some y) : RepD w St y v := by
  cases r <;> simp only [Ab.toD, Option.some.injEq, reduceCtorEq] at h <;> subst h <;> assumption

mutual
/-- what a value that stands for something satisfies -/
def SV.Wf : SV → Prop
  | .d x => x.Wf
  | .own sz L => (D.sl .ro sz L).Wf
  | .full sz L => (D.sl .ro sz L).Wf
  | .ref cs _ => SV.WfL cs
  | .dptr x _ => D.WfL x.cells
  | .clo _ a b => SV.WfL a ∧ SV.WfL b
  | .tup l => SV.WfL l
  | .undef => True
def SV.WfL : List SV → Prop
  | [] => True
  | x :: l => x.Wf ∧ SV.WfL l
end

theorem D.WfL_iff : ∀ (l : List D), D.WfL l ↔ ∀ x ∈ l, x.Wf
  | [] => by simp [D.WfL]
  | x :: l => by simp [D.WfL, D.WfL_iff l]
theorem SV.WfL_iff : ∀ (l : List SV), SV.WfL l ↔ ∀ x ∈ l, x.Wf
  | [] => by simp [SV.WfL]
  | x :: l => by simp [SV.WfL, SV.WfL_iff l]

theorem RepD.cells_one {w : World} {St : Nat → Nat → Prop} {d : D} {v : Value} (r : RepD w St d v) : ∀ c ∈ d.cells, c.one = true := by
  cases r with
  | agg ds vs hf hl hc => exact hf
  | _ => intro c hc; simp only [D.cells, List.mem_singleton] at hc; subst hc; rfl
theorem RepD.oneCell {w : World} {St : Nat → Nat → Prop} {d : D} {v : Value} (r : RepD w St d v) (h : d.one = true) : v.oneCell' = true := by
  cases r <;> first | rfl | simp [D.one] at h

theorem RepD.wf {w : World} {St : Nat → Nat → Prop} {d : D} {v : Value} (r : RepD w St d v) : d.Wf := by
  induction r with
  | int k n hk => simpa [D.Wf] using hk
  | str s hs => rw [D.Wf]; exact hs
  | agg ds vs hf hl _ ih =>
    rw [D.Wf, D.WfL_iff]
    intro x hx
    obtain ⟨i, hi, rfl⟩ := List.mem_iff_getElem.1 hx
    exact ih i _ (vs[i]'(by omega)) (by simp) (by simp)
  | nilsl sz => simp [D.Wf, D.WfL]
  | slz sz a cap => simp [D.Wf, D.WfL]
  | sl sz L b off cap vs hcap hm hsz hf hcell hc ih =>
    rw [D.Wf]
    refine ⟨hm, by simp, hsz, ?_⟩
    rw [D.WfL_iff]
    intro x hx
    obtain ⟨i, hi, rfl⟩ := List.mem_iff_getElem.1 hx
    have key : ∀ c ∈ (L[i]).cells, c.Wf := fun c hcm => by
      obtain ⟨j, hj, rfl⟩ := List.mem_iff_getElem.1 hcm
      exact ih i _ j _ (List.getElem?_eq_getElem hi) (List.getElem?_eq_getElem hj)
    cases hL : L[i] with
    | agg cs => rw [hL] at key; rw [D.Wf, D.WfL_iff]; exact key
    | _ => rw [hL] at key; exact key _ (by simp [D.cells])
  | iface t x v _ ih => simpa [D.Wf] using ih
  | _ => simp [D.Wf]

theorem RepV.wf {w : World} {St : Nat → Nat → Prop} {base : Nat} {O : Nat → Nat → Nat → Prop} {x : SV} {v : Value} (r : RepV w St base O x v) : x.Wf := by
  induction r with
  | d O x v hd => simpa [SV.Wf] using hd.wf
  | own O sz L g cap hd hcap ho => simpa [SV.Wf] using hd.wf
  | full O sz L a hd => simpa [SV.Wf] using hd.wf
  | ref O cs off b o vs hbb hcell _ ih =>
    rw [SV.Wf, SV.WfL_iff]
    intro x hx
    obtain ⟨i, hi, rfl⟩ := List.mem_iff_getElem.1 hx
    exact ih i _ (by simp)
  | dptr O x off b o vs hf hcell hc =>
    rw [SV.Wf, D.WfL_iff]
    intro c hcm
    obtain ⟨j, hj, rfl⟩ := List.mem_iff_getElem.1 hcm
    exact (hc j _ (by simp)).wf
  | clo O f first cap fv cv hf hc _ _ ihf ihc =>
    rw [SV.Wf, SV.WfL_iff, SV.WfL_iff]
    constructor
    · intro x hx
      obtain ⟨i, hi, rfl⟩ := List.mem_iff_getElem.1 hx
      exact ihf i _ (fv[i]'(by omega)) (by simp) (by simp)
    · intro x hx
      obtain ⟨i, hi, rfl⟩ := List.mem_iff_getElem.1 hx
      exact ihc i _ (cv[i]'(by omega)) (by simp) (by simp)
  | undef => simp [SV.Wf]

/-- the places that own rows -/
inductive Pos where
  | s (i j : Nat)
  | b (i j : Nat)
  deriving DecidableEq

/-- what the walk knows beside the world: the memory that stays, the blocks of the variables, who owns a row -/
structure Gh where
  St : Nat → Nat → Prop
  bx : List (Option Nat)
  ow : Nat → Option Pos

/-- a row of this call's own, whole, that this place owns, and whose places beyond the slice's end nobody reads -/
def OwnAt (base : Nat) (w : World) (g : Gh) (p : Pos) (b a c : Nat) : Prop :=
  g.ow b = some p ∧ base ≤ b ∧ some b ∉ g.bx ∧ (∃ cur e, w.heap[b]? = some (.cells cur e (0, 0)) ∧ cur.size = c) ∧ ∀ o, a ≤ o → ¬ g.St b o

/-- what a slot stands for (no owner inside a closure) -/
inductive RepS (base : Nat) (w : World) (g : Gh) : (Nat → Nat → Nat → Nat → Prop) → Slot → Value → Prop
  | v (O : Nat → Nat → Nat → Nat → Prop) (x : SV) (y : Value) (h : RepV w g.St base (O 0) x y) : RepS base w g O (.v x) y
  | p (O : Nat → Nat → Nat → Nat → Prop) (b off blk : Nat) (h : g.bx[b]? = some (some blk)) : RepS base w g O (.p b off) (.pointer (some ⟨blk, off, none⟩))
  | c (O : Nat → Nat → Nat → Nat → Prop) (f : Fn) (first cap : List Slot) (fv cv : Array Value) (hf : first.length = fv.size) (hc : cap.length = cv.size)
      (rf : ∀ (i : Nat) x v, first[i]? = some x → fv[i]? = some v → RepS base w g (fun _ _ _ _ => False) x v)
      (rc : ∀ (i : Nat) x v, cap[i]? = some x → cv[i]? = some v → RepS base w g (fun _ _ _ _ => False) x v) : RepS base w g O (.c f first cap) (.func f fv cv)
  | t (O : Nat → Nat → Nat → Nat → Prop) (xs : List SV) (vs : Array Value) (hl : xs.length = vs.size)
      (hc : ∀ (j : Nat) x v, xs[j]? = some x → vs[j]? = some v → RepV w g.St base (O j) x v) : RepS base w g O (.t xs) (.tuple vs)

def slotO (base : Nat) (w : World) (g : Gh) (i j : Nat) : Nat → Nat → Nat → Prop := OwnAt base w g (.s i j)
def boxO (base : Nat) (w : World) (g : Gh) (i j : Nat) : Nat → Nat → Nat → Prop := OwnAt base w g (.b i j)

/-- a variable of this call in memory -/
def RepB (base : Nat) (w : World) (g : Gh) (b : Nat) (bx : Box) (blk : Nat) : Prop :=
  base ≤ blk ∧ ∃ c t, w.heap[blk]? = some (.cells c t (0, 0)) ∧ (∀ y ∈ c, y.oneCell' = true) ∧ match bx with
    | .none => False
    | .cells cs => cs.length = c.size ∧ ∀ (j : Nat) x y, cs[j]? = some x → c[j]? = some y → RepV w g.St base (boxO base w g b j) x y
    | .one s => c.size = 1 ∧ ∀ y, c[0]? = some y → RepS base w g (fun _ => boxO base w g b 0) s y

/-- the package-level variables that are read -/
def GlobOK (gl : Nat → Option D) (w : World) (St : Nat → Nat → Prop) : Prop :=
  ∀ n x, gl n = some x → (∀ c ∈ x.cells, c.one = true) ∧ ∃ vs : Nat → Value, (∀ (i : Nat), i < x.cells.length → w.cell? ⟨n, i, none⟩ = some (vs i) ∧ St n i) ∧ ∀ (i : Nat) c, x.cells[i]? = some c → RepD w St c (vs i)

structure Inv (gl : Nat → Option D) (w0 : World) (St0 : Nat → Nat → Prop) (e : Env) (a : Act) (w : World) (g : Gh) : Prop where
  below : Below w0.heap.size w0 w
  size : a.tmps.size = e.slots.length
  slots : ∀ (i : Nat) s, e.slots[i]? = some s → RepS w0.heap.size w g (slotO w0.heap.size w g i) s (a.tmps.getD i undef)
  bxlen : g.bx.length = e.boxes.length
  boxes : ∀ (b : Nat) bx blk, e.boxes[b]? = some bx → g.bx[b]? = some (some blk) → RepB w0.heap.size w g b bx blk
  nodup : ∀ (i j : Nat) blk, g.bx[i]? = some (some blk) → g.bx[j]? = some (some blk) → i = j
  st0 : ∀ b o, St0 b o → g.St b o
  st1 : ∀ b o, g.St b o → (St0 b o ∨ w0.heap.size ≤ b) ∧ some b ∉ g.bx ∧ b < w.heap.size
  bxlt : ∀ b, some b ∈ g.bx → w0.heap.size ≤ b ∧ b < w.heap.size
  glob : GlobOK gl w g.St
  defers : a.defers = []

end Go.Proofs.Ytfeepndphaboeaa.Ab
