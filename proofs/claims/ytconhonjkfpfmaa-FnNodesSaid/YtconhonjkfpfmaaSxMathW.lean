/-
  A part of the abstract machine over the model's Code, or of the proof that what it shows holds of the model; no program is in sight, and nothing is assumed.
-/
import Derived.Test.YtconhonjkfpfmaaSxMathV
/-! Arrays with an entry dropped or set. -/
namespace Go.Sx
open Go
namespace V
def withItems (v : V) (es : List (Ky × V)) : V := ⟨v.kind, v.num, v.str, v.next, es⟩
def dropKey (v : V) (k : Ky) : V := match v.find k with
  | none => v
  | some i => v.withItems (v.items.take i ++ v.items.drop (i + 1))
def setAt (v : V) (i : Nat) (x : V) : V := match v.items[i]? with
  | none => v
  | some e => v.withItems (v.items.take i ++ (e.1, x) :: v.items.drop (i + 1))
def dropPath : V → List Ky → V
  | v, [] => v
  | v, [k] => v.dropKey k
  | v, k :: q :: r => match v.find k, v.get k with
    | some i, some x => v.setAt i (x.dropPath (q :: r))
    | _, _ => v
def setKey (v : V) (k : Ky) (x : V) : V := match v.find k with
  | some i => v.setAt i x
  | none => ⟨v.kind, v.num, v.str, if k.text then v.next else max v.next (IntKind.i64.wrap (k.num + 1)), v.items ++ [(k, x)]⟩
theorem find_other {v : V} {k : Ky} (h : ¬ v.kind = 4) : v.find k = none := by unfold V.find; rw [if_neg h]
theorem dropPath_other {v : V} (h : ¬ v.kind = 4) : ∀ p : List Ky, v.dropPath p = v
  | [] => by unfold dropPath; rfl
  | [k] => by unfold dropPath dropKey; rw [find_other h]
  | k :: q :: r => by unfold dropPath; rw [find_other h]
theorem dropPath_nil (v : V) : v.dropPath [] = v := by unfold dropPath; rfl
theorem dropPath_one (v : V) (k : Ky) : v.dropPath [k] = v.dropKey k := by unfold dropPath; rfl
theorem dropPath_more (v : V) (k q : Ky) (r : List Ky) : v.dropPath (k :: q :: r) = match v.get k with
  | none => v
  | some x => v.setKey k (x.dropPath (q :: r)) := by
  rw [dropPath]
  cases hf : v.find k with
  | none => rw [find_none hf]
  | some i =>
    obtain ⟨x, hx, hg, hlt⟩ := find_get hf
    rw [hg]
    simp only [setKey, hf]
theorem withItems_kind {v : V} {es : List (Ky × V)} : (v.withItems es).kind = v.kind := (rfl)
theorem withItems_num {v : V} {es : List (Ky × V)} : (v.withItems es).num = v.num := (rfl)
theorem withItems_str {v : V} {es : List (Ky × V)} : (v.withItems es).str = v.str := (rfl)
theorem withItems_next {v : V} {es : List (Ky × V)} : (v.withItems es).next = v.next := (rfl)
theorem withItems_items {v : V} {es : List (Ky × V)} : (v.withItems es).items = es := (rfl)
end V
end Go.Sx
