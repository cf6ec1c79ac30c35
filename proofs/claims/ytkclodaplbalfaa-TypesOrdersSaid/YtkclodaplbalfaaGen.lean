/- All shallow forms. Conditions: none. -/
import Derived.Test.YtkclodaplbalfaaGen0
import Derived.Test.YtkclodaplbalfaaGen1
import Derived.Test.YtkclodaplbalfaaGen2
import Derived.Test.YtkclodaplbalfaaGen3
import Derived.Test.YtkclodaplbalfaaGen4
