-- Kinds apart: the words of this text lie in the text beside it.
import Derived.Test.YtefjppdchgdjlaaDoorPk
import Derived.Test.YtefjppdchgdjlaaDoorPlugB
import Derived.Test.YtefjppdchgdjlaaDoorPlugI
