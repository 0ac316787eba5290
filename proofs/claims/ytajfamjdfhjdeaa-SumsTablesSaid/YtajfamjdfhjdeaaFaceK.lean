/- Words of our own for handles: how a promoted method is found. Plain lemmas over any program. -/
import Derived.Test.YtajfamjdfhjdeaaFacts
import Derived.Test.YtajfamjdfhjdeaaKit2
import Derived.Laws.Entries

import Derived.Stop.Asserts
namespace Go.Proofs.Ytajfamjdfhjdeaa
open Go.RowKit

theorem ti_some {P : Program} {W : World} {t : TypeId} {i : TypeInfo} (h : P.info? t = some i) : (typeInfo t).run P W = .ok i W := by
  simp [typeInfo, h]

/-- A call through an embedded interface goes on at the value that lies there. -/
theorem method_emb {P : Program} {W : World} {fuel : Nat} {t st ft : TypeId} {name : String} {b o off : Nat} {T : TypeId} {v : Value} {k : Nat}
    (h1 : ((P.info? t).bind fun i => (i.methods.find? (·.name == name)).map fun m => (m.path.toList, m.func)) = some ([⟨st, k, true⟩], none))
    (h2 : ((P.underlying st).bind fun d => match d with | .struct fs => (fs[k]?).map fun f => (f.type, f.offset) | _ => none) = some (ft, off))
    (h3 : (P.info? ft).map (·.size) = some 1)
    (h4 : ((P.underlying ft).map fun d => match d with | .struct _ => false | .array _ _ => false | _ => true) = some true)
    (hc : W.cell? ⟨b, o + off, none⟩ = some (.iface T v)) :
    (method (fuel + 1) t (.pointer (some ⟨b, o, none⟩)) name).run P W = (method fuel T v name).run P W := by
  obtain ⟨i, hi, h1⟩ := Option.bind_eq_some_iff.1 h1
  obtain ⟨m, hm, h1⟩ := Option.map_eq_some_iff.1 h1
  obtain ⟨d, hd, h2⟩ := Option.bind_eq_some_iff.1 h2
  cases d <;> simp only [reduceCtorEq] at h2
  obtain ⟨f, hf, h2⟩ := Option.map_eq_some_iff.1 h2
  simp only [Prod.mk.injEq] at h1 h2
  obtain ⟨rfl, rfl⟩ := h2
  obtain ⟨hp, hfu⟩ := h1
  obtain ⟨j, hj, h3⟩ := Option.map_eq_some_iff.1 h3
  obtain ⟨d, hd', h4⟩ := Option.map_eq_some_iff.1 h4
  have hag : (isAgg f.type).run P W = .ok false W := by
    unfold isAgg
    rw [Sem.run_bind, run_underlying hd']
    cases d <;> simp_all
  have hsz : (sizeOf f.type).run P W = .ok 1 W := by
    unfold sizeOf
    rw [Sem.run_bind, ti_some hj]
    simp [h3]
  have hpl : (fieldPlace ⟨b, o, none⟩ f).run P W = .ok ⟨b, o + f.offset, none⟩ W := by
    unfold fieldPlace
    rw [Sem.run_bind, hsz]
    simp [add_at]
  have hst : (follow [⟨st, k, true⟩] t (.val (.pointer (some ⟨b, o, none⟩)))).run P W = .ok (f.type, .var ⟨b, o + f.offset, none⟩) W := by
    unfold follow
    rw [Sem.run_bind, run_underlying hd]
    simp only [Result.andThen_ok, hf]
    simp only [if_true, Place.get, Sem.run_bind, Sem.run_pure, Result.andThen_ok, asAddr, hpl, follow]
  rw [method, Sem.run_bind, ti_some hi]
  simp only [Result.andThen_ok, hm, hp, hfu]
  rw [Sem.run_bind, hst]
  simp only [Result.andThen_ok, Place.get, loadVar]
  rw [Sem.run_bind, Sem.run_bind, hag]
  simp [hc]
end Go.Proofs.Ytajfamjdfhjdeaa
